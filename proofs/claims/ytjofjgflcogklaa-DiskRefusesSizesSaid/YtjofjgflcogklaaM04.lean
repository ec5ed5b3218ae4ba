/-
  Merged from DkRel DkRead DkSet DkRot DkPend: How a disk lies in the heap; check, step, Len, Up, Trip.
-/
import Derived.Test.YtjofjgflcogklaaM03
/-
  How a disk lies in the heap; check, step, Len, Up, Trip.
-/
set_option linter.unusedSimpArgs false
set_option linter.unusedVariables false
set_option maxHeartbeats 4000000
namespace Go.Proofs.Ytjofjgflcogklaa
open Go Go.Abs

def blkV (x : Sec) : AVal := .agg (x.text.1.map byteV)
def secV (x : Sec) : AVal := .agg [.str x.text.1, .str ((x.next.map (·.1)).getD []), .bool x.next.isSome, .bool x.worn]
theorem blkV_len (x : Sec) : (blkV x).cells.length = 64 := by simp [blkV, AVal.cells, x.text.2]
theorem secV_len (x : Sec) : (secV x).cells.length = 4 := rfl

def nextV (b : B64) : AVal := .agg (b.1.map byteV)
def pendF (s : List Sec) (i : Nat) : Option AVal := if i < s.length then (nth s i).next.map nextV else none
def wornF (s : List Sec) (i : Nat) : Option AVal := if i < s.length ∧ (nth s i).worn = true then some (.bool true) else none

def LeftP (lv : Int) (l : Option Nat) : Prop := match l with
  | none => lv < 0 ∧ -9223372036854775808 ≤ lv
  | some n => lv = (n : Int)

/-- The program's disk. -/
structure PD (h : Heap) (d b p w : Nat) (D : Dsk) : Prop where
  ok : D.ok
  lv : ∃ lv, LeftP lv D.left ∧ h.get d = some (.row true 0 true [.ref b 0 D.s.length 64, .mp p, .mp w, .bool D.off, .int .i64 lv])
  blk : h.get b = some (.row true 64 true (flat (D.s.map blkV)))
  pend : ∃ c es, h.get p = some (.map (.int .i64) c es) ∧ MapIs es D.s.length (pendF D.s)
  worn : ∃ c es, h.get w = some (.map (.int .i64) c es) ∧ MapIs es D.s.length (wornF D.s)
  ne : d ≠ b ∧ d ≠ p ∧ d ≠ w ∧ b ≠ p ∧ b ≠ w ∧ p ≠ w

def leftI (l : Option Nat) : Int := match l with
  | none => -1
  | some n => (n : Int)

/-- The reference's disk. -/
structure RD (h : Heap) (r s : Nat) (D : Dsk) : Prop where
  ok : D.ok
  hr : h.get r = some (.row true 0 true [.ref s 0 D.s.length 4, .bool D.off, .int .i64 (leftI D.left)])
  hs : h.get s = some (.row true 4 true (flat (D.s.map secV)))
  ne : r ≠ s

def PS (d b p w : Nat) (j : Nat) : Prop := j = d ∨ j = b ∨ j = p ∨ j = w
def RS (r s : Nat) (j : Nat) : Prop := j = r ∨ j = s

theorem PD.fr {h h' : Heap} {d b p w : Nat} {D : Dsk} (P : PD h d b p w D) {S : Nat → Prop} (a : Fr S h h') (hn : ∀ j, PS d b p w j → ¬ S j) : PD h' d b p w D := by
  obtain ⟨ok, ⟨lv, l1, l2⟩, blk, ⟨c, es, p1, p2⟩, ⟨c', es', w1, w2⟩, ne⟩ := P
  exact ⟨ok, ⟨lv, l1, a.get l2 (hn _ (.inl rfl))⟩, a.get blk (hn _ (.inr (.inl rfl))), ⟨c, es, a.get p1 (hn _ (.inr (.inr (.inl rfl)))), p2⟩, ⟨c', es', a.get w1 (hn _ (.inr (.inr (.inr rfl)))), w2⟩, ne⟩

theorem RD.fr {h h' : Heap} {r s : Nat} {D : Dsk} (R : RD h r s D) {S : Nat → Prop} (a : Fr S h h') (hn : ∀ j, RS r s j → ¬ S j) : RD h' r s D :=
  ⟨R.ok, a.get R.hr (hn _ (.inl rfl)), a.get R.hs (hn _ (.inr rfl)), R.ne⟩

theorem PD.lt {h : Heap} {d b p w : Nat} {D : Dsk} (P : PD h d b p w D) : ∀ j, PS d b p w j → j < h.next := by
  obtain ⟨ok, ⟨lv, l1, l2⟩, blk, ⟨c, es, p1, p2⟩, ⟨c', es', w1, w2⟩, ne⟩ := P
  rintro j (rfl | rfl | rfl | rfl)
  · exact get_lt l2
  · exact get_lt blk
  · exact get_lt p1
  · exact get_lt w1
theorem RD.lt {h : Heap} {r s : Nat} {D : Dsk} (R : RD h r s D) : ∀ j, RS r s j → j < h.next := by
  rintro j (rfl | rfl)
  · exact get_lt R.hr
  · exact get_lt R.hs

variable {h : Heap} {d b p w r s : Nat} {D : Dsk}

/-- A call that only tells something. -/
theorem cv_rw {g : Nat} {a : List AVal} {h : Heap} {v : AVal} (c : CV F g a h (fun u h' => u = v ∧ h' = h)) (K : AVal → Heap → Prop) : CV F g a h K = K v h := by
  obtain ⟨r, h', c, rfl, rfl⟩ := c
  have hc : GV F g a h' = some (r, h') := by first | exact c | exact GV_of c
  refine propext ⟨fun k => ?_, fun k => ⟨r, h', c, k⟩⟩
  obtain ⟨r2, h2, c2, k⟩ := k
  have hc2 : GV F g a h' = some (r2, h2) := by first | exact c2 | exact GV_of c2
  rw [hc] at hc2
  simp only [Option.some.injEq, Prod.mk.injEq] at hc2
  obtain ⟨rfl, rfl⟩ := hc2
  exact k

theorem check_c (P : PD h d b p w D) (i : Int) : CV F 46 [.ptr d 0, .int .i64 i] h (fun v h' => v = .int .i64 (if D.off then 21 else if i < 0 ∨ (D.s.length : Int) ≤ i then 1 else 0) ∧ h' = h) := by
  obtain ⟨ok, ⟨lv, l1, l2⟩, blk, pe, wo, ne⟩ := P
  have hlen := ok.len
  refine CV_wp (fn := c46) rfl ?_
  dsimp only [c46]
  cases hoff : D.off <;> rw [hoff] at l2
  · try simp (maxSteps := 4000000) (disch := first | assumption | omega | (simp only [push_next, put_next, empty_next, List.length_cons, List.length_nil] <;> omega) | exact _root_.id rfl | exact _root_.id (fun _ => rfl) | fail) only [↓pre, post, Int.reduceEq, Int.reduceLT, Int.reduceLE, Int.reduceAdd, Int.reduceSub, Int.reduceMul, Int.reduceNeg, Nat.reduceLT, Nat.reduceSub, Nat.reduceMul, Nat.reduceAdd, Nat.reduceLeDiff, reduceIte, reduceCtorEq, Nat.reduceEqDiff, l2]
    repeat' (first
      | (refine ifP_pos (by first | assumption | omega) ?_ <;> try simp (maxSteps := 4000000) (disch := first | assumption | omega | (simp only [push_next, put_next, empty_next, List.length_cons, List.length_nil] <;> omega) | exact _root_.id rfl | exact _root_.id (fun _ => rfl) | fail) only [↓pre, post, Int.reduceEq, Int.reduceLT, Int.reduceLE, Int.reduceAdd, Int.reduceSub, Int.reduceMul, Int.reduceNeg, Nat.reduceLT, Nat.reduceSub, Nat.reduceMul, Nat.reduceAdd, Nat.reduceLeDiff, reduceIte, reduceCtorEq, Nat.reduceEqDiff, l2])
      | (refine ifP_neg (by first | assumption | omega) ?_ <;> try simp (maxSteps := 4000000) (disch := first | assumption | omega | (simp only [push_next, put_next, empty_next, List.length_cons, List.length_nil] <;> omega) | exact _root_.id rfl | exact _root_.id (fun _ => rfl) | fail) only [↓pre, post, Int.reduceEq, Int.reduceLT, Int.reduceLE, Int.reduceAdd, Int.reduceSub, Int.reduceMul, Int.reduceNeg, Nat.reduceLT, Nat.reduceSub, Nat.reduceMul, Nat.reduceAdd, Nat.reduceLeDiff, reduceIte, reduceCtorEq, Nat.reduceEqDiff, l2])
      | (refine ifP_intro (fun hyp => ?_) (fun hyp => ?_) <;> first | simp (maxSteps := 4000000) (disch := first | assumption | omega | (simp only [push_next, put_next, empty_next, List.length_cons, List.length_nil] <;> omega) | exact _root_.id rfl | exact _root_.id (fun _ => rfl) | fail) only [↓pre, post, Int.reduceEq, Int.reduceLT, Int.reduceLE, Int.reduceAdd, Int.reduceSub, Int.reduceMul, Int.reduceNeg, Nat.reduceLT, Nat.reduceSub, Nat.reduceMul, Nat.reduceAdd, Nat.reduceLeDiff, reduceIte, reduceCtorEq, Nat.reduceEqDiff, l2, eq_false hyp] | simp (maxSteps := 4000000) (disch := first | assumption | omega | (simp only [push_next, put_next, empty_next, List.length_cons, List.length_nil] <;> omega) | exact _root_.id rfl | exact _root_.id (fun _ => rfl) | fail) only [↓pre, post, Int.reduceEq, Int.reduceLT, Int.reduceLE, Int.reduceAdd, Int.reduceSub, Int.reduceMul, Int.reduceNeg, Nat.reduceLT, Nat.reduceSub, Nat.reduceMul, Nat.reduceAdd, Nat.reduceLeDiff, reduceIte, reduceCtorEq, Nat.reduceEqDiff, l2, eq_true hyp] | skip))
    rw [if_neg (by assumption)]
  · try simp (maxSteps := 4000000) (disch := first | assumption | omega | (simp only [push_next, put_next, empty_next, List.length_cons, List.length_nil] <;> omega) | exact _root_.id rfl | exact _root_.id (fun _ => rfl) | fail) only [↓pre, post, Int.reduceEq, Int.reduceLT, Int.reduceLE, Int.reduceAdd, Int.reduceSub, Int.reduceMul, Int.reduceNeg, Nat.reduceLT, Nat.reduceSub, Nat.reduceMul, Nat.reduceAdd, Nat.reduceLeDiff, reduceIte, reduceCtorEq, Nat.reduceEqDiff, l2]
    repeat' (first
      | (refine ifP_pos (by first | assumption | omega) ?_ <;> try simp (maxSteps := 4000000) (disch := first | assumption | omega | (simp only [push_next, put_next, empty_next, List.length_cons, List.length_nil] <;> omega) | exact _root_.id rfl | exact _root_.id (fun _ => rfl) | fail) only [↓pre, post, Int.reduceEq, Int.reduceLT, Int.reduceLE, Int.reduceAdd, Int.reduceSub, Int.reduceMul, Int.reduceNeg, Nat.reduceLT, Nat.reduceSub, Nat.reduceMul, Nat.reduceAdd, Nat.reduceLeDiff, reduceIte, reduceCtorEq, Nat.reduceEqDiff, l2])
      | (refine ifP_neg (by first | assumption | omega) ?_ <;> try simp (maxSteps := 4000000) (disch := first | assumption | omega | (simp only [push_next, put_next, empty_next, List.length_cons, List.length_nil] <;> omega) | exact _root_.id rfl | exact _root_.id (fun _ => rfl) | fail) only [↓pre, post, Int.reduceEq, Int.reduceLT, Int.reduceLE, Int.reduceAdd, Int.reduceSub, Int.reduceMul, Int.reduceNeg, Nat.reduceLT, Nat.reduceSub, Nat.reduceMul, Nat.reduceAdd, Nat.reduceLeDiff, reduceIte, reduceCtorEq, Nat.reduceEqDiff, l2])
      | (refine ifP_intro (fun hyp => ?_) (fun hyp => ?_) <;> first | simp (maxSteps := 4000000) (disch := first | assumption | omega | (simp only [push_next, put_next, empty_next, List.length_cons, List.length_nil] <;> omega) | exact _root_.id rfl | exact _root_.id (fun _ => rfl) | fail) only [↓pre, post, Int.reduceEq, Int.reduceLT, Int.reduceLE, Int.reduceAdd, Int.reduceSub, Int.reduceMul, Int.reduceNeg, Nat.reduceLT, Nat.reduceSub, Nat.reduceMul, Nat.reduceAdd, Nat.reduceLeDiff, reduceIte, reduceCtorEq, Nat.reduceEqDiff, l2, eq_false hyp] | simp (maxSteps := 4000000) (disch := first | assumption | omega | (simp only [push_next, put_next, empty_next, List.length_cons, List.length_nil] <;> omega) | exact _root_.id rfl | exact _root_.id (fun _ => rfl) | fail) only [↓pre, post, Int.reduceEq, Int.reduceLT, Int.reduceLE, Int.reduceAdd, Int.reduceSub, Int.reduceMul, Int.reduceNeg, Nat.reduceLT, Nat.reduceSub, Nat.reduceMul, Nat.reduceAdd, Nat.reduceLeDiff, reduceIte, reduceCtorEq, Nat.reduceEqDiff, l2, eq_true hyp] | skip))

theorem len_c (P : PD h d b p w D) : CV F 31 [.ptr d 0] h (fun v h' => v = .int .i64 D.s.length ∧ h' = h) := by
  obtain ⟨ok, ⟨lv, l1, l2⟩, blk, pe, wo, ne⟩ := P
  refine CV_wp (fn := c31) rfl ?_
  dsimp only [c31]
  try simp (maxSteps := 4000000) (disch := first | assumption | omega | (simp only [push_next, put_next, empty_next, List.length_cons, List.length_nil] <;> omega) | exact _root_.id rfl | exact _root_.id (fun _ => rfl) | fail) only [↓pre, post, Int.reduceEq, Int.reduceLT, Int.reduceLE, Int.reduceAdd, Int.reduceSub, Int.reduceMul, Int.reduceNeg, Nat.reduceLT, Nat.reduceSub, Nat.reduceMul, Nat.reduceAdd, Nat.reduceLeDiff, reduceIte, reduceCtorEq, Nat.reduceEqDiff, l2]
  repeat' (first
    | (refine ifP_pos (by first | assumption | omega) ?_ <;> try simp (maxSteps := 4000000) (disch := first | assumption | omega | (simp only [push_next, put_next, empty_next, List.length_cons, List.length_nil] <;> omega) | exact _root_.id rfl | exact _root_.id (fun _ => rfl) | fail) only [↓pre, post, Int.reduceEq, Int.reduceLT, Int.reduceLE, Int.reduceAdd, Int.reduceSub, Int.reduceMul, Int.reduceNeg, Nat.reduceLT, Nat.reduceSub, Nat.reduceMul, Nat.reduceAdd, Nat.reduceLeDiff, reduceIte, reduceCtorEq, Nat.reduceEqDiff, l2])
    | (refine ifP_neg (by first | assumption | omega) ?_ <;> try simp (maxSteps := 4000000) (disch := first | assumption | omega | (simp only [push_next, put_next, empty_next, List.length_cons, List.length_nil] <;> omega) | exact _root_.id rfl | exact _root_.id (fun _ => rfl) | fail) only [↓pre, post, Int.reduceEq, Int.reduceLT, Int.reduceLE, Int.reduceAdd, Int.reduceSub, Int.reduceMul, Int.reduceNeg, Nat.reduceLT, Nat.reduceSub, Nat.reduceMul, Nat.reduceAdd, Nat.reduceLeDiff, reduceIte, reduceCtorEq, Nat.reduceEqDiff, l2])
    | (refine ifP_intro (fun hyp => ?_) (fun hyp => ?_) <;> first | simp (maxSteps := 4000000) (disch := first | assumption | omega | (simp only [push_next, put_next, empty_next, List.length_cons, List.length_nil] <;> omega) | exact _root_.id rfl | exact _root_.id (fun _ => rfl) | fail) only [↓pre, post, Int.reduceEq, Int.reduceLT, Int.reduceLE, Int.reduceAdd, Int.reduceSub, Int.reduceMul, Int.reduceNeg, Nat.reduceLT, Nat.reduceSub, Nat.reduceMul, Nat.reduceAdd, Nat.reduceLeDiff, reduceIte, reduceCtorEq, Nat.reduceEqDiff, l2, eq_false hyp] | simp (maxSteps := 4000000) (disch := first | assumption | omega | (simp only [push_next, put_next, empty_next, List.length_cons, List.length_nil] <;> omega) | exact _root_.id rfl | exact _root_.id (fun _ => rfl) | fail) only [↓pre, post, Int.reduceEq, Int.reduceLT, Int.reduceLE, Int.reduceAdd, Int.reduceSub, Int.reduceMul, Int.reduceNeg, Nat.reduceLT, Nat.reduceSub, Nat.reduceMul, Nat.reduceAdd, Nat.reduceLeDiff, reduceIte, reduceCtorEq, Nat.reduceEqDiff, l2, eq_true hyp] | skip))

theorem up_c (P : PD h d b p w D) : CV F 27 [.ptr d 0] h (fun v h' => v = .bool (!D.off) ∧ h' = h) := by
  obtain ⟨ok, ⟨lv, l1, l2⟩, blk, pe, wo, ne⟩ := P
  refine CV_wp (fn := c27) rfl ?_
  dsimp only [c27]
  try simp (maxSteps := 4000000) (disch := first | assumption | omega | (simp only [push_next, put_next, empty_next, List.length_cons, List.length_nil] <;> omega) | exact _root_.id rfl | exact _root_.id (fun _ => rfl) | fail) only [↓pre, post, Int.reduceEq, Int.reduceLT, Int.reduceLE, Int.reduceAdd, Int.reduceSub, Int.reduceMul, Int.reduceNeg, Nat.reduceLT, Nat.reduceSub, Nat.reduceMul, Nat.reduceAdd, Nat.reduceLeDiff, reduceIte, reduceCtorEq, Nat.reduceEqDiff, l2]
  repeat' (first
    | (refine ifP_pos (by first | assumption | omega) ?_ <;> try simp (maxSteps := 4000000) (disch := first | assumption | omega | (simp only [push_next, put_next, empty_next, List.length_cons, List.length_nil] <;> omega) | exact _root_.id rfl | exact _root_.id (fun _ => rfl) | fail) only [↓pre, post, Int.reduceEq, Int.reduceLT, Int.reduceLE, Int.reduceAdd, Int.reduceSub, Int.reduceMul, Int.reduceNeg, Nat.reduceLT, Nat.reduceSub, Nat.reduceMul, Nat.reduceAdd, Nat.reduceLeDiff, reduceIte, reduceCtorEq, Nat.reduceEqDiff, l2])
    | (refine ifP_neg (by first | assumption | omega) ?_ <;> try simp (maxSteps := 4000000) (disch := first | assumption | omega | (simp only [push_next, put_next, empty_next, List.length_cons, List.length_nil] <;> omega) | exact _root_.id rfl | exact _root_.id (fun _ => rfl) | fail) only [↓pre, post, Int.reduceEq, Int.reduceLT, Int.reduceLE, Int.reduceAdd, Int.reduceSub, Int.reduceMul, Int.reduceNeg, Nat.reduceLT, Nat.reduceSub, Nat.reduceMul, Nat.reduceAdd, Nat.reduceLeDiff, reduceIte, reduceCtorEq, Nat.reduceEqDiff, l2])
    | (refine ifP_intro (fun hyp => ?_) (fun hyp => ?_) <;> first | simp (maxSteps := 4000000) (disch := first | assumption | omega | (simp only [push_next, put_next, empty_next, List.length_cons, List.length_nil] <;> omega) | exact _root_.id rfl | exact _root_.id (fun _ => rfl) | fail) only [↓pre, post, Int.reduceEq, Int.reduceLT, Int.reduceLE, Int.reduceAdd, Int.reduceSub, Int.reduceMul, Int.reduceNeg, Nat.reduceLT, Nat.reduceSub, Nat.reduceMul, Nat.reduceAdd, Nat.reduceLeDiff, reduceIte, reduceCtorEq, Nat.reduceEqDiff, l2, eq_false hyp] | simp (maxSteps := 4000000) (disch := first | assumption | omega | (simp only [push_next, put_next, empty_next, List.length_cons, List.length_nil] <;> omega) | exact _root_.id rfl | exact _root_.id (fun _ => rfl) | fail) only [↓pre, post, Int.reduceEq, Int.reduceLT, Int.reduceLE, Int.reduceAdd, Int.reduceSub, Int.reduceMul, Int.reduceNeg, Nat.reduceLT, Nat.reduceSub, Nat.reduceMul, Nat.reduceAdd, Nat.reduceLeDiff, reduceIte, reduceCtorEq, Nat.reduceEqDiff, l2, eq_true hyp] | skip))

/-- The row of the disk is written anew. -/
theorem PD.top {D' : Dsk} {lv : Int} (P : PD h d b p w D) (ok : D'.ok) (hs : D'.s = D.s) (hl : LeftP lv D'.left) :
    PD (h.put d (some (.row true 0 true [.ref b 0 D.s.length 64, .mp p, .mp w, .bool D'.off, .int .i64 lv]))) d b p w D' := by
  obtain ⟨ok0, ⟨lv0, l1, l2⟩, blk, ⟨c, es, p1, p2⟩, ⟨c', es', w1, w2⟩, ne⟩ := P
  obtain ⟨n1, n2, n3, n4, n5, n6⟩ := ne
  exact ⟨ok, ⟨lv, hl, by rw [hs]; exact get_put_old l2⟩, by rw [get_put_ne (Ne.symm n1), hs]; exact blk, ⟨c, es, by rw [get_put_ne (Ne.symm n2)]; exact p1, by rw [hs]; exact p2⟩, ⟨c', es', by rw [get_put_ne (Ne.symm n3)]; exact w1, by rw [hs]; exact w2⟩, ⟨n1, n2, n3, n4, n5, n6⟩⟩

theorem fr_d (h : Heap) (d b p w : Nat) (o : Option Abs.Obj) : Fr (PS d b p w) h (h.put d o) := Fr.put (Fr.refl _ _) (.inl (.inl rfl)) o

theorem trip_c (P : PD h d b p w D) {n : Int} (hn : -9223372036854775808 ≤ n ∧ n < 9223372036854775808) : CV F 30 [.ptr d 0, .int .i64 n] h (fun v h' => PD h' d b p w (D.trip n) ∧ Fr (PS d b p w) h h') := by
  have P0 := P
  obtain ⟨ok, ⟨lv, l1, l2⟩, blk, pe, wo, ne⟩ := P
  refine CV_wp (fn := c30) rfl ?_
  dsimp only [c30]
  have T := P0.top (D' := D.trip n) (lv := n) ⟨ok.pos, ok.len, fun m hm => by simp only [Dsk.trip] at hm; split at hm <;> simp at hm; omega⟩ rfl (by simp only [LeftP, Dsk.trip]; split <;> rename_i q <;> split at q <;> simp at q <;> omega)
  try simp (maxSteps := 4000000) (disch := first | assumption | omega | (simp only [push_next, put_next, empty_next, List.length_cons, List.length_nil] <;> omega) | exact _root_.id rfl | exact _root_.id (fun _ => rfl) | fail) only [↓pre, post, Int.reduceEq, Int.reduceLT, Int.reduceLE, Int.reduceAdd, Int.reduceSub, Int.reduceMul, Int.reduceNeg, Nat.reduceLT, Nat.reduceSub, Nat.reduceMul, Nat.reduceAdd, Nat.reduceLeDiff, reduceIte, reduceCtorEq, Nat.reduceEqDiff, l2]
  repeat' (first
    | (refine ifP_pos (by first | assumption | omega) ?_ <;> try simp (maxSteps := 4000000) (disch := first | assumption | omega | (simp only [push_next, put_next, empty_next, List.length_cons, List.length_nil] <;> omega) | exact _root_.id rfl | exact _root_.id (fun _ => rfl) | fail) only [↓pre, post, Int.reduceEq, Int.reduceLT, Int.reduceLE, Int.reduceAdd, Int.reduceSub, Int.reduceMul, Int.reduceNeg, Nat.reduceLT, Nat.reduceSub, Nat.reduceMul, Nat.reduceAdd, Nat.reduceLeDiff, reduceIte, reduceCtorEq, Nat.reduceEqDiff, l2])
    | (refine ifP_neg (by first | assumption | omega) ?_ <;> try simp (maxSteps := 4000000) (disch := first | assumption | omega | (simp only [push_next, put_next, empty_next, List.length_cons, List.length_nil] <;> omega) | exact _root_.id rfl | exact _root_.id (fun _ => rfl) | fail) only [↓pre, post, Int.reduceEq, Int.reduceLT, Int.reduceLE, Int.reduceAdd, Int.reduceSub, Int.reduceMul, Int.reduceNeg, Nat.reduceLT, Nat.reduceSub, Nat.reduceMul, Nat.reduceAdd, Nat.reduceLeDiff, reduceIte, reduceCtorEq, Nat.reduceEqDiff, l2])
    | (refine ifP_intro (fun hyp => ?_) (fun hyp => ?_) <;> first | simp (maxSteps := 4000000) (disch := first | assumption | omega | (simp only [push_next, put_next, empty_next, List.length_cons, List.length_nil] <;> omega) | exact _root_.id rfl | exact _root_.id (fun _ => rfl) | fail) only [↓pre, post, Int.reduceEq, Int.reduceLT, Int.reduceLE, Int.reduceAdd, Int.reduceSub, Int.reduceMul, Int.reduceNeg, Nat.reduceLT, Nat.reduceSub, Nat.reduceMul, Nat.reduceAdd, Nat.reduceLeDiff, reduceIte, reduceCtorEq, Nat.reduceEqDiff, l2, eq_false hyp] | simp (maxSteps := 4000000) (disch := first | assumption | omega | (simp only [push_next, put_next, empty_next, List.length_cons, List.length_nil] <;> omega) | exact _root_.id rfl | exact _root_.id (fun _ => rfl) | fail) only [↓pre, post, Int.reduceEq, Int.reduceLT, Int.reduceLE, Int.reduceAdd, Int.reduceSub, Int.reduceMul, Int.reduceNeg, Nat.reduceLT, Nat.reduceSub, Nat.reduceMul, Nat.reduceAdd, Nat.reduceLeDiff, reduceIte, reduceCtorEq, Nat.reduceEqDiff, l2, eq_true hyp] | skip))
  exact ⟨T, fr_d ..⟩

theorem step_c (P : PD h d b p w D) : CV F 47 [.ptr d 0] h (fun v h' => (D.left = some 0 ∧ v = .int .i64 21 ∧ PD h' d b p w { D with off := true } ∨ D.left ≠ some 0 ∧ v = .int .i64 0 ∧ PD h' d b p w { D with left := stepL D.left }) ∧ Fr (PS d b p w) h h') := by
  have P0 := P
  obtain ⟨ok, ⟨lv, l1, l2⟩, blk, pe, wo, ne⟩ := P
  refine CV_wp (fn := c47) rfl ?_
  dsimp only [c47]
  cases hl : D.left with
  | none =>
    rw [hl] at l1
    obtain ⟨l1, l1'⟩ := l1
    try simp (maxSteps := 4000000) (disch := first | assumption | omega | (simp only [push_next, put_next, empty_next, List.length_cons, List.length_nil] <;> omega) | exact _root_.id rfl | exact _root_.id (fun _ => rfl) | fail) only [↓pre, post, Int.reduceEq, Int.reduceLT, Int.reduceLE, Int.reduceAdd, Int.reduceSub, Int.reduceMul, Int.reduceNeg, Nat.reduceLT, Nat.reduceSub, Nat.reduceMul, Nat.reduceAdd, Nat.reduceLeDiff, reduceIte, reduceCtorEq, Nat.reduceEqDiff, l2]
    repeat' (first
      | (refine ifP_pos (by first | assumption | omega) ?_ <;> try simp (maxSteps := 4000000) (disch := first | assumption | omega | (simp only [push_next, put_next, empty_next, List.length_cons, List.length_nil] <;> omega) | exact _root_.id rfl | exact _root_.id (fun _ => rfl) | fail) only [↓pre, post, Int.reduceEq, Int.reduceLT, Int.reduceLE, Int.reduceAdd, Int.reduceSub, Int.reduceMul, Int.reduceNeg, Nat.reduceLT, Nat.reduceSub, Nat.reduceMul, Nat.reduceAdd, Nat.reduceLeDiff, reduceIte, reduceCtorEq, Nat.reduceEqDiff, l2])
      | (refine ifP_neg (by first | assumption | omega) ?_ <;> try simp (maxSteps := 4000000) (disch := first | assumption | omega | (simp only [push_next, put_next, empty_next, List.length_cons, List.length_nil] <;> omega) | exact _root_.id rfl | exact _root_.id (fun _ => rfl) | fail) only [↓pre, post, Int.reduceEq, Int.reduceLT, Int.reduceLE, Int.reduceAdd, Int.reduceSub, Int.reduceMul, Int.reduceNeg, Nat.reduceLT, Nat.reduceSub, Nat.reduceMul, Nat.reduceAdd, Nat.reduceLeDiff, reduceIte, reduceCtorEq, Nat.reduceEqDiff, l2])
      | (refine ifP_intro (fun hyp => ?_) (fun hyp => ?_) <;> first | simp (maxSteps := 4000000) (disch := first | assumption | omega | (simp only [push_next, put_next, empty_next, List.length_cons, List.length_nil] <;> omega) | exact _root_.id rfl | exact _root_.id (fun _ => rfl) | fail) only [↓pre, post, Int.reduceEq, Int.reduceLT, Int.reduceLE, Int.reduceAdd, Int.reduceSub, Int.reduceMul, Int.reduceNeg, Nat.reduceLT, Nat.reduceSub, Nat.reduceMul, Nat.reduceAdd, Nat.reduceLeDiff, reduceIte, reduceCtorEq, Nat.reduceEqDiff, l2, eq_false hyp] | simp (maxSteps := 4000000) (disch := first | assumption | omega | (simp only [push_next, put_next, empty_next, List.length_cons, List.length_nil] <;> omega) | exact _root_.id rfl | exact _root_.id (fun _ => rfl) | fail) only [↓pre, post, Int.reduceEq, Int.reduceLT, Int.reduceLE, Int.reduceAdd, Int.reduceSub, Int.reduceMul, Int.reduceNeg, Nat.reduceLT, Nat.reduceSub, Nat.reduceMul, Nat.reduceAdd, Nat.reduceLeDiff, reduceIte, reduceCtorEq, Nat.reduceEqDiff, l2, eq_true hyp] | skip))
    exact ⟨⟨⟨P0.ok.pos, P0.ok.len, by simp [stepL]⟩, ⟨lv, ⟨l1, l1'⟩, l2⟩, P0.blk, P0.pend, P0.worn, P0.ne⟩, Fr.refl _ _⟩
  | some n =>
    rw [hl] at l1
    have l1 : lv = (n : Int) := l1
    subst l1
    have hb := P0.ok.left n hl
    try simp (maxSteps := 4000000) (disch := first | assumption | omega | (simp only [push_next, put_next, empty_next, List.length_cons, List.length_nil] <;> omega) | exact _root_.id rfl | exact _root_.id (fun _ => rfl) | fail) only [↓pre, post, Int.reduceEq, Int.reduceLT, Int.reduceLE, Int.reduceAdd, Int.reduceSub, Int.reduceMul, Int.reduceNeg, Nat.reduceLT, Nat.reduceSub, Nat.reduceMul, Nat.reduceAdd, Nat.reduceLeDiff, reduceIte, reduceCtorEq, Nat.reduceEqDiff, l2]
    repeat' (first
      | (refine ifP_pos (by first | assumption | omega) ?_ <;> try simp (maxSteps := 4000000) (disch := first | assumption | omega | (simp only [push_next, put_next, empty_next, List.length_cons, List.length_nil] <;> omega) | exact _root_.id rfl | exact _root_.id (fun _ => rfl) | fail) only [↓pre, post, Int.reduceEq, Int.reduceLT, Int.reduceLE, Int.reduceAdd, Int.reduceSub, Int.reduceMul, Int.reduceNeg, Nat.reduceLT, Nat.reduceSub, Nat.reduceMul, Nat.reduceAdd, Nat.reduceLeDiff, reduceIte, reduceCtorEq, Nat.reduceEqDiff, l2])
      | (refine ifP_neg (by first | assumption | omega) ?_ <;> try simp (maxSteps := 4000000) (disch := first | assumption | omega | (simp only [push_next, put_next, empty_next, List.length_cons, List.length_nil] <;> omega) | exact _root_.id rfl | exact _root_.id (fun _ => rfl) | fail) only [↓pre, post, Int.reduceEq, Int.reduceLT, Int.reduceLE, Int.reduceAdd, Int.reduceSub, Int.reduceMul, Int.reduceNeg, Nat.reduceLT, Nat.reduceSub, Nat.reduceMul, Nat.reduceAdd, Nat.reduceLeDiff, reduceIte, reduceCtorEq, Nat.reduceEqDiff, l2])
      | (refine ifP_intro (fun hyp => ?_) (fun hyp => ?_) <;> first | simp (maxSteps := 4000000) (disch := first | assumption | omega | (simp only [push_next, put_next, empty_next, List.length_cons, List.length_nil] <;> omega) | exact _root_.id rfl | exact _root_.id (fun _ => rfl) | fail) only [↓pre, post, Int.reduceEq, Int.reduceLT, Int.reduceLE, Int.reduceAdd, Int.reduceSub, Int.reduceMul, Int.reduceNeg, Nat.reduceLT, Nat.reduceSub, Nat.reduceMul, Nat.reduceAdd, Nat.reduceLeDiff, reduceIte, reduceCtorEq, Nat.reduceEqDiff, l2, eq_false hyp] | simp (maxSteps := 4000000) (disch := first | assumption | omega | (simp only [push_next, put_next, empty_next, List.length_cons, List.length_nil] <;> omega) | exact _root_.id rfl | exact _root_.id (fun _ => rfl) | fail) only [↓pre, post, Int.reduceEq, Int.reduceLT, Int.reduceLE, Int.reduceAdd, Int.reduceSub, Int.reduceMul, Int.reduceNeg, Nat.reduceLT, Nat.reduceSub, Nat.reduceMul, Nat.reduceAdd, Nat.reduceLeDiff, reduceIte, reduceCtorEq, Nat.reduceEqDiff, l2, eq_true hyp] | skip))
    · have hn : n = 0 := by omega
      subst hn
      exact ⟨⟨rfl, P0.top (D' := { D with off := true, left := some 0 }) ⟨ok.pos, ok.len, by simp⟩ rfl rfl⟩, fr_d ..⟩
    · refine ⟨⟨by omega, P0.top (D' := { D with left := stepL (some n) }) ⟨ok.pos, ok.len, fun m hm => by simp [stepL] at hm; omega⟩ rfl ?_⟩, fr_d ..⟩
      show (n : Int) - 1 = ((n - 1 : Nat) : Int)
      omega
end Go.Proofs.Ytjofjgflcogklaa

/-
  Read, Write, Wear of the program's disk.
-/
set_option linter.unusedSimpArgs false
set_option linter.unusedVariables false
set_option maxHeartbeats 4000000
namespace Go.Proofs.Ytjofjgflcogklaa
open Go Go.Abs
variable {h : Heap} {d b p w r s : Nat} {D : Dsk}

theorem check_0 (P : PD h d b p w D) (hoff : D.off = false) {i : Int} (h0 : 0 ≤ i) (h1 : i < D.s.length) : CV F 46 [.ptr d 0, .int .i64 i] h (fun v h' => v = .int .i64 0 ∧ h' = h) := by
  have := check_c P i
  rw [hoff, if_neg (by simp), if_neg (by omega)] at this
  exact this
theorem check_1 (P : PD h d b p w D) (hoff : D.off = false) {i : Int} (h0 : i < 0 ∨ (D.s.length : Int) ≤ i) : CV F 46 [.ptr d 0, .int .i64 i] h (fun v h' => v = .int .i64 1 ∧ h' = h) := by
  have := check_c P i
  rw [hoff, if_neg (by simp), if_pos h0] at this
  exact this
theorem check_21 (P : PD h d b p w D) (hoff : D.off = true) (i : Int) : CV F 46 [.ptr d 0, .int .i64 i] h (fun v h' => v = .int .i64 21 ∧ h' = h) := by
  have := check_c P i
  rw [hoff, if_pos rfl] at this
  exact this

theorem blk_take (l : List Sec) (k : Nat) (hk : k < l.length) : ((flat (l.map blkV)).drop (k * 64)).take 64 = (nth l k).text.1.map byteV := by
  have := flatm_get blkV_len l hk (k := 0) (m := 64) (by omega)
  rw [Nat.add_zero] at this
  rw [this, List.drop_zero, List.take_of_length_le (by rw [blkV_len]; exact Nat.le_refl _)]
  rfl

theorem blk_len (l : List Sec) : (flat (l.map blkV)).length = l.length * 64 := flatm_len blkV_len l

/-- An empty sector in the code. -/
def zerosV : List AVal := List.replicate 64 (.int .u8 0)
theorem z64 : [AVal.int .u8 0, AVal.int .u8 0, AVal.int .u8 0, AVal.int .u8 0, AVal.int .u8 0, AVal.int .u8 0, AVal.int .u8 0, AVal.int .u8 0, AVal.int .u8 0, AVal.int .u8 0, AVal.int .u8 0, AVal.int .u8 0, AVal.int .u8 0, AVal.int .u8 0, AVal.int .u8 0, AVal.int .u8 0, AVal.int .u8 0, AVal.int .u8 0, AVal.int .u8 0, AVal.int .u8 0, AVal.int .u8 0, AVal.int .u8 0, AVal.int .u8 0, AVal.int .u8 0, AVal.int .u8 0, AVal.int .u8 0, AVal.int .u8 0, AVal.int .u8 0, AVal.int .u8 0, AVal.int .u8 0, AVal.int .u8 0, AVal.int .u8 0, AVal.int .u8 0, AVal.int .u8 0, AVal.int .u8 0, AVal.int .u8 0, AVal.int .u8 0, AVal.int .u8 0, AVal.int .u8 0, AVal.int .u8 0, AVal.int .u8 0, AVal.int .u8 0, AVal.int .u8 0, AVal.int .u8 0, AVal.int .u8 0, AVal.int .u8 0, AVal.int .u8 0, AVal.int .u8 0, AVal.int .u8 0, AVal.int .u8 0, AVal.int .u8 0, AVal.int .u8 0, AVal.int .u8 0, AVal.int .u8 0, AVal.int .u8 0, AVal.int .u8 0, AVal.int .u8 0, AVal.int .u8 0, AVal.int .u8 0, AVal.int .u8 0, AVal.int .u8 0, AVal.int .u8 0, AVal.int .u8 0, AVal.int .u8 0] = zerosV := rfl
def cks : List CK := List.replicate 64 .int
theorem ck64 : [CK.int, CK.int, CK.int, CK.int, CK.int, CK.int, CK.int, CK.int, CK.int, CK.int, CK.int, CK.int, CK.int, CK.int, CK.int, CK.int, CK.int, CK.int, CK.int, CK.int, CK.int, CK.int, CK.int, CK.int, CK.int, CK.int, CK.int, CK.int, CK.int, CK.int, CK.int, CK.int, CK.int, CK.int, CK.int, CK.int, CK.int, CK.int, CK.int, CK.int, CK.int, CK.int, CK.int, CK.int, CK.int, CK.int, CK.int, CK.int, CK.int, CK.int, CK.int, CK.int, CK.int, CK.int, CK.int, CK.int, CK.int, CK.int, CK.int, CK.int, CK.int, CK.int, CK.int, CK.int] = cks := rfl
theorem zerosV_len : zerosV.length = 64 := by simp [zerosV]
theorem nextV_len (v : B64) : (nextV v).cells.length = 64 := by simp [nextV, AVal.cells, v.2]
theorem byteV_one (l : List UInt8) : (l.map byteV).all AVal.one = true := by simp [byteV, AVal.one]
theorem nextV_one (v : B64) : (nextV v).cells.all AVal.one = true := byteV_one v.1
theorem setCells_all : ∀ (ys zs : List AVal), zs.length = ys.length → setCells zs 0 ys = ys := by
  have gen : ∀ (ys pre zs : List AVal), zs.length = ys.length → setCells (pre ++ zs) pre.length ys = pre ++ ys := by
    intro ys
    induction ys with
    | nil => intro pre zs h; simp at h; subst h; simp [setCells]
    | cons y ys ih =>
      intro pre zs h
      cases zs with
      | nil => simp at h
      | cons z zs =>
        simp only [setCells]
        have := ih (pre ++ [y]) zs (by simpa using h)
        simp at this ⊢
        exact this
  intro ys zs h
  have := gen ys [] zs h
  simpa using this
theorem setZ (v : B64) : setCells zerosV 0 (nextV v).cells = (nextV v).cells := setCells_all _ _ (by rw [nextV_len, zerosV_len])
theorem zerosV_one : zerosV.all AVal.one = true := by simp [zerosV, AVal.one]
theorem setZ0 : setCells zerosV 0 zerosV = zerosV := setCells_all _ _ rfl
theorem next_take (v : B64) : ((nextV v).cells.drop 0).take 64 = v.1.map byteV := by rw [List.drop_zero, List.take_of_length_le (by rw [nextV_len]; exact Nat.le_refl _)]; rfl
theorem nextV_cells (v : B64) : (nextV v).cells = v.1.map byteV := rfl

theorem mk_agg (cs : List AVal) : mk true cs = some (.agg cs) := rfl

theorem asM_blk {l : List Sec} {k : Nat} (hk : k < l.length) (id : Nat) (h : Heap) (mu : Bool) (s : Nat) (ag : Bool) : asM id (k * 64) 64 1 h (some (.row mu s ag (flat (l.map blkV)))) = some (.ref id (k * 64) 64 1, h) := asM_row (by rw [blk_len]; omega) (by omega)
theorem b2s_blk {l : List Sec} {k : Nat} (hk : k < l.length) (h : Heap) (mu : Bool) (s : Nat) (ag : Bool) : b2sM (k * 64) 64 h (some (.row mu s ag (flat (l.map blkV)))) = some (.str (nth l k).text.1, h) := b2sM_row (by rw [blk_len]; omega) (blk_take l k hk)
theorem asM_next (v : B64) (id : Nat) (h : Heap) (mu : Bool) (s : Nat) (ag : Bool) : asM id 0 64 1 h (some (.row mu s ag (nextV v).cells)) = some (.ref id 0 64 1, h) := asM_row (by rw [nextV_len]; omega) (by omega)
theorem b2s_next (v : B64) (h : Heap) (mu : Bool) (s : Nat) (ag : Bool) : b2sM 0 64 h (some (.row mu s ag (nextV v).cells)) = some (.str v.1, h) := b2sM_row (by rw [nextV_len]; omega) (next_take v)

theorem read_c (P : PD h d b p w D) (i : Int) : CV F 16 [.ptr d 0, .int .i64 i] h (fun v h' => v = .tup [.str (D.read i).1, .int .i64 (D.read i).2] ∧ PD h' d b p w D ∧ Fr (fun _ => False) h h') := by
  have P0 := P
  obtain ⟨ok, ⟨lv, l1, l2⟩, blk, ⟨c, es, p1, p2⟩, wo, ne⟩ := P
  have hlen := ok.len
  refine CV_wp (fn := c16) rfl ?_
  dsimp only [c16]
  simp only [z64]
  have hd := P0.lt d (.inl rfl)
  have hb := P0.lt b (.inr (.inl rfl))
  have hp := P0.lt p (.inr (.inr (.inl rfl)))
  by_cases hoff : D.off = true
  · have hC := cv_rw (check_21 P0 hoff i)
    try simp (maxSteps := 4000000) (disch := first | assumption | omega | (simp only [push_next, put_next, empty_next, List.length_cons, List.length_nil] <;> omega) | exact _root_.id rfl | exact _root_.id (fun _ => rfl) | fail) only [↓pre, post, Int.reduceEq, Int.reduceLT, Int.reduceLE, Int.reduceAdd, Int.reduceSub, Int.reduceMul, Int.reduceNeg, Nat.reduceLT, Nat.reduceSub, Nat.reduceMul, Nat.reduceAdd, Nat.reduceLeDiff, reduceIte, reduceCtorEq, Nat.reduceEqDiff, hC]
    repeat' (first
      | (refine ifP_pos (by first | assumption | omega) ?_ <;> try simp (maxSteps := 4000000) (disch := first | assumption | omega | (simp only [push_next, put_next, empty_next, List.length_cons, List.length_nil] <;> omega) | exact _root_.id rfl | exact _root_.id (fun _ => rfl) | fail) only [↓pre, post, Int.reduceEq, Int.reduceLT, Int.reduceLE, Int.reduceAdd, Int.reduceSub, Int.reduceMul, Int.reduceNeg, Nat.reduceLT, Nat.reduceSub, Nat.reduceMul, Nat.reduceAdd, Nat.reduceLeDiff, reduceIte, reduceCtorEq, Nat.reduceEqDiff, hC])
      | (refine ifP_neg (by first | assumption | omega) ?_ <;> try simp (maxSteps := 4000000) (disch := first | assumption | omega | (simp only [push_next, put_next, empty_next, List.length_cons, List.length_nil] <;> omega) | exact _root_.id rfl | exact _root_.id (fun _ => rfl) | fail) only [↓pre, post, Int.reduceEq, Int.reduceLT, Int.reduceLE, Int.reduceAdd, Int.reduceSub, Int.reduceMul, Int.reduceNeg, Nat.reduceLT, Nat.reduceSub, Nat.reduceMul, Nat.reduceAdd, Nat.reduceLeDiff, reduceIte, reduceCtorEq, Nat.reduceEqDiff, hC])
      | (refine ifP_intro (fun hyp => ?_) (fun hyp => ?_) <;> first | simp (maxSteps := 4000000) (disch := first | assumption | omega | (simp only [push_next, put_next, empty_next, List.length_cons, List.length_nil] <;> omega) | exact _root_.id rfl | exact _root_.id (fun _ => rfl) | fail) only [↓pre, post, Int.reduceEq, Int.reduceLT, Int.reduceLE, Int.reduceAdd, Int.reduceSub, Int.reduceMul, Int.reduceNeg, Nat.reduceLT, Nat.reduceSub, Nat.reduceMul, Nat.reduceAdd, Nat.reduceLeDiff, reduceIte, reduceCtorEq, Nat.reduceEqDiff, hC, eq_false hyp] | simp (maxSteps := 4000000) (disch := first | assumption | omega | (simp only [push_next, put_next, empty_next, List.length_cons, List.length_nil] <;> omega) | exact _root_.id rfl | exact _root_.id (fun _ => rfl) | fail) only [↓pre, post, Int.reduceEq, Int.reduceLT, Int.reduceLE, Int.reduceAdd, Int.reduceSub, Int.reduceMul, Int.reduceNeg, Nat.reduceLT, Nat.reduceSub, Nat.reduceMul, Nat.reduceAdd, Nat.reduceLeDiff, reduceIte, reduceCtorEq, Nat.reduceEqDiff, hC, eq_true hyp] | skip))
    simp [Dsk.read, hoff]
    exact ⟨P0, Fr.refl _ _⟩
  · simp only [Bool.not_eq_true] at hoff
    by_cases hi : i < 0 ∨ (D.s.length : Int) ≤ i
    · have hC := cv_rw (check_1 P0 hoff hi)
      try simp (maxSteps := 4000000) (disch := first | assumption | omega | (simp only [push_next, put_next, empty_next, List.length_cons, List.length_nil] <;> omega) | exact _root_.id rfl | exact _root_.id (fun _ => rfl) | fail) only [↓pre, post, Int.reduceEq, Int.reduceLT, Int.reduceLE, Int.reduceAdd, Int.reduceSub, Int.reduceMul, Int.reduceNeg, Nat.reduceLT, Nat.reduceSub, Nat.reduceMul, Nat.reduceAdd, Nat.reduceLeDiff, reduceIte, reduceCtorEq, Nat.reduceEqDiff, hC]
      repeat' (first
        | (refine ifP_pos (by first | assumption | omega) ?_ <;> try simp (maxSteps := 4000000) (disch := first | assumption | omega | (simp only [push_next, put_next, empty_next, List.length_cons, List.length_nil] <;> omega) | exact _root_.id rfl | exact _root_.id (fun _ => rfl) | fail) only [↓pre, post, Int.reduceEq, Int.reduceLT, Int.reduceLE, Int.reduceAdd, Int.reduceSub, Int.reduceMul, Int.reduceNeg, Nat.reduceLT, Nat.reduceSub, Nat.reduceMul, Nat.reduceAdd, Nat.reduceLeDiff, reduceIte, reduceCtorEq, Nat.reduceEqDiff, hC])
        | (refine ifP_neg (by first | assumption | omega) ?_ <;> try simp (maxSteps := 4000000) (disch := first | assumption | omega | (simp only [push_next, put_next, empty_next, List.length_cons, List.length_nil] <;> omega) | exact _root_.id rfl | exact _root_.id (fun _ => rfl) | fail) only [↓pre, post, Int.reduceEq, Int.reduceLT, Int.reduceLE, Int.reduceAdd, Int.reduceSub, Int.reduceMul, Int.reduceNeg, Nat.reduceLT, Nat.reduceSub, Nat.reduceMul, Nat.reduceAdd, Nat.reduceLeDiff, reduceIte, reduceCtorEq, Nat.reduceEqDiff, hC])
        | (refine ifP_intro (fun hyp => ?_) (fun hyp => ?_) <;> first | simp (maxSteps := 4000000) (disch := first | assumption | omega | (simp only [push_next, put_next, empty_next, List.length_cons, List.length_nil] <;> omega) | exact _root_.id rfl | exact _root_.id (fun _ => rfl) | fail) only [↓pre, post, Int.reduceEq, Int.reduceLT, Int.reduceLE, Int.reduceAdd, Int.reduceSub, Int.reduceMul, Int.reduceNeg, Nat.reduceLT, Nat.reduceSub, Nat.reduceMul, Nat.reduceAdd, Nat.reduceLeDiff, reduceIte, reduceCtorEq, Nat.reduceEqDiff, hC, eq_false hyp] | simp (maxSteps := 4000000) (disch := first | assumption | omega | (simp only [push_next, put_next, empty_next, List.length_cons, List.length_nil] <;> omega) | exact _root_.id rfl | exact _root_.id (fun _ => rfl) | fail) only [↓pre, post, Int.reduceEq, Int.reduceLT, Int.reduceLE, Int.reduceAdd, Int.reduceSub, Int.reduceMul, Int.reduceNeg, Nat.reduceLT, Nat.reduceSub, Nat.reduceMul, Nat.reduceAdd, Nat.reduceLeDiff, reduceIte, reduceCtorEq, Nat.reduceEqDiff, hC, eq_true hyp] | skip))
      simp [Dsk.read, hoff, hi]
      exact ⟨P0, Fr.refl _ _⟩
    · obtain ⟨k, rfl⟩ : ∃ k : Nat, i = (k : Int) := ⟨i.toNat, by omega⟩
      have hk : k < D.s.length := by omega
      have hC := cv_rw (check_0 P0 hoff (i := (k : Int)) (by omega) (by omega))
      have hr : D.read (k : Int) = (((nth D.s k).next.getD (nth D.s k).text).1, 0) := by
        unfold Dsk.read
        rw [hoff, if_neg (by simp), if_neg hi]; simp
      rw [hr]
      cases hx : (nth D.s k).next with
      | none =>
        have hL := p2.getN (i := k) (by simp [pendF, hx])
        try simp (maxSteps := 4000000) (disch := first | assumption | omega | (simp only [push_next, put_next, empty_next, List.length_cons, List.length_nil] <;> omega) | exact _root_.id rfl | exact _root_.id (fun _ => rfl) | fail) only [↓pre, post, Int.reduceEq, Int.reduceLT, Int.reduceLE, Int.reduceAdd, Int.reduceSub, Int.reduceMul, Int.reduceNeg, Nat.reduceLT, Nat.reduceSub, Nat.reduceMul, Nat.reduceAdd, Nat.reduceLeDiff, reduceIte, reduceCtorEq, Nat.reduceEqDiff, hC, l2, p1, lookM_none hL, blk, zerosV_len, zerosV_one, setZ0, asM_blk hk, b2s_blk hk]
        repeat' (first
          | (refine ifP_pos (by first | assumption | omega) ?_ <;> try simp (maxSteps := 4000000) (disch := first | assumption | omega | (simp only [push_next, put_next, empty_next, List.length_cons, List.length_nil] <;> omega) | exact _root_.id rfl | exact _root_.id (fun _ => rfl) | fail) only [↓pre, post, Int.reduceEq, Int.reduceLT, Int.reduceLE, Int.reduceAdd, Int.reduceSub, Int.reduceMul, Int.reduceNeg, Nat.reduceLT, Nat.reduceSub, Nat.reduceMul, Nat.reduceAdd, Nat.reduceLeDiff, reduceIte, reduceCtorEq, Nat.reduceEqDiff, hC, l2, p1, lookM_none hL, blk, zerosV_len, zerosV_one, setZ0, asM_blk hk, b2s_blk hk])
          | (refine ifP_neg (by first | assumption | omega) ?_ <;> try simp (maxSteps := 4000000) (disch := first | assumption | omega | (simp only [push_next, put_next, empty_next, List.length_cons, List.length_nil] <;> omega) | exact _root_.id rfl | exact _root_.id (fun _ => rfl) | fail) only [↓pre, post, Int.reduceEq, Int.reduceLT, Int.reduceLE, Int.reduceAdd, Int.reduceSub, Int.reduceMul, Int.reduceNeg, Nat.reduceLT, Nat.reduceSub, Nat.reduceMul, Nat.reduceAdd, Nat.reduceLeDiff, reduceIte, reduceCtorEq, Nat.reduceEqDiff, hC, l2, p1, lookM_none hL, blk, zerosV_len, zerosV_one, setZ0, asM_blk hk, b2s_blk hk])
          | (refine ifP_intro (fun hyp => ?_) (fun hyp => ?_) <;> first | simp (maxSteps := 4000000) (disch := first | assumption | omega | (simp only [push_next, put_next, empty_next, List.length_cons, List.length_nil] <;> omega) | exact _root_.id rfl | exact _root_.id (fun _ => rfl) | fail) only [↓pre, post, Int.reduceEq, Int.reduceLT, Int.reduceLE, Int.reduceAdd, Int.reduceSub, Int.reduceMul, Int.reduceNeg, Nat.reduceLT, Nat.reduceSub, Nat.reduceMul, Nat.reduceAdd, Nat.reduceLeDiff, reduceIte, reduceCtorEq, Nat.reduceEqDiff, hC, l2, p1, lookM_none hL, blk, zerosV_len, zerosV_one, setZ0, asM_blk hk, b2s_blk hk, eq_false hyp] | simp (maxSteps := 4000000) (disch := first | assumption | omega | (simp only [push_next, put_next, empty_next, List.length_cons, List.length_nil] <;> omega) | exact _root_.id rfl | exact _root_.id (fun _ => rfl) | fail) only [↓pre, post, Int.reduceEq, Int.reduceLT, Int.reduceLE, Int.reduceAdd, Int.reduceSub, Int.reduceMul, Int.reduceNeg, Nat.reduceLT, Nat.reduceSub, Nat.reduceMul, Nat.reduceAdd, Nat.reduceLeDiff, reduceIte, reduceCtorEq, Nat.reduceEqDiff, hC, l2, p1, lookM_none hL, blk, zerosV_len, zerosV_one, setZ0, asM_blk hk, b2s_blk hk, eq_true hyp] | skip))
        exact ⟨P0.fr ((Fr.refl (fun _ => False) _).push _) (by simp), (Fr.refl _ _).push _⟩
      | some v =>
        obtain ⟨j, hL⟩ := p2.getS (i := k) (v := nextV v) (by simp [pendF, hk, hx])
        try simp (maxSteps := 4000000) (disch := first | assumption | omega | (simp only [push_next, put_next, empty_next, List.length_cons, List.length_nil] <;> omega) | exact _root_.id rfl | exact _root_.id (fun _ => rfl) | fail) only [↓pre, post, Int.reduceEq, Int.reduceLT, Int.reduceLE, Int.reduceAdd, Int.reduceSub, Int.reduceMul, Int.reduceNeg, Nat.reduceLT, Nat.reduceSub, Nat.reduceMul, Nat.reduceAdd, Nat.reduceLeDiff, reduceIte, reduceCtorEq, Nat.reduceEqDiff, hC, l2, p1, lookM_some hL, blk, zerosV_len, zerosV_one, nextV_len, nextV_one, setZ, asM_next, b2s_next]
        repeat' (first
          | (refine ifP_pos (by first | assumption | omega) ?_ <;> try simp (maxSteps := 4000000) (disch := first | assumption | omega | (simp only [push_next, put_next, empty_next, List.length_cons, List.length_nil] <;> omega) | exact _root_.id rfl | exact _root_.id (fun _ => rfl) | fail) only [↓pre, post, Int.reduceEq, Int.reduceLT, Int.reduceLE, Int.reduceAdd, Int.reduceSub, Int.reduceMul, Int.reduceNeg, Nat.reduceLT, Nat.reduceSub, Nat.reduceMul, Nat.reduceAdd, Nat.reduceLeDiff, reduceIte, reduceCtorEq, Nat.reduceEqDiff, hC, l2, p1, lookM_some hL, blk, zerosV_len, zerosV_one, nextV_len, nextV_one, setZ, asM_next, b2s_next])
          | (refine ifP_neg (by first | assumption | omega) ?_ <;> try simp (maxSteps := 4000000) (disch := first | assumption | omega | (simp only [push_next, put_next, empty_next, List.length_cons, List.length_nil] <;> omega) | exact _root_.id rfl | exact _root_.id (fun _ => rfl) | fail) only [↓pre, post, Int.reduceEq, Int.reduceLT, Int.reduceLE, Int.reduceAdd, Int.reduceSub, Int.reduceMul, Int.reduceNeg, Nat.reduceLT, Nat.reduceSub, Nat.reduceMul, Nat.reduceAdd, Nat.reduceLeDiff, reduceIte, reduceCtorEq, Nat.reduceEqDiff, hC, l2, p1, lookM_some hL, blk, zerosV_len, zerosV_one, nextV_len, nextV_one, setZ, asM_next, b2s_next])
          | (refine ifP_intro (fun hyp => ?_) (fun hyp => ?_) <;> first | simp (maxSteps := 4000000) (disch := first | assumption | omega | (simp only [push_next, put_next, empty_next, List.length_cons, List.length_nil] <;> omega) | exact _root_.id rfl | exact _root_.id (fun _ => rfl) | fail) only [↓pre, post, Int.reduceEq, Int.reduceLT, Int.reduceLE, Int.reduceAdd, Int.reduceSub, Int.reduceMul, Int.reduceNeg, Nat.reduceLT, Nat.reduceSub, Nat.reduceMul, Nat.reduceAdd, Nat.reduceLeDiff, reduceIte, reduceCtorEq, Nat.reduceEqDiff, hC, l2, p1, lookM_some hL, blk, zerosV_len, zerosV_one, nextV_len, nextV_one, setZ, asM_next, b2s_next, eq_false hyp] | simp (maxSteps := 4000000) (disch := first | assumption | omega | (simp only [push_next, put_next, empty_next, List.length_cons, List.length_nil] <;> omega) | exact _root_.id rfl | exact _root_.id (fun _ => rfl) | fail) only [↓pre, post, Int.reduceEq, Int.reduceLT, Int.reduceLE, Int.reduceAdd, Int.reduceSub, Int.reduceMul, Int.reduceNeg, Nat.reduceLT, Nat.reduceSub, Nat.reduceMul, Nat.reduceAdd, Nat.reduceLeDiff, reduceIte, reduceCtorEq, Nat.reduceEqDiff, hC, l2, p1, lookM_some hL, blk, zerosV_len, zerosV_one, nextV_len, nextV_one, setZ, asM_next, b2s_next, eq_true hyp] | skip))
        exact ⟨P0.fr ((Fr.refl (fun _ => False) _).push _) (by simp), (Fr.refl _ _).push _⟩

/-- A pending content is put in. -/
theorem PD.putNext {c : Nat} {es : List (Nat × AVal × AVal)} (P : PD h d b p w D) (p1 : h.get p = some (.map (.int .i64) c es)) (p2 : MapIs es D.s.length (pendF D.s)) {k : Nat} (hk : k < D.s.length) (v : B64) :
    PD (h.put p (some (.map (.int .i64) (mput (.int .i64) (.int .i64 (k : Int)) (nextV v) c es).1 (mput (.int .i64) (.int .i64 (k : Int)) (nextV v) c es).2))) d b p w { D with s := D.s.set k { nth D.s k with next := some v } } := by
  obtain ⟨ok, ⟨lv, l1, l2⟩, blk, _, ⟨c', es', w1, w2⟩, n1, n2, n3, n4, n5, n6⟩ := P
  have hnth : ∀ i, i < D.s.length → nth (D.s.set k { nth D.s k with next := some v }) i = if i = k then { nth D.s k with next := some v } else nth D.s i := by
    intro i hi
    by_cases hik : i = k
    · subst hik; simp [nth, List.getD_eq_getElem?_getD, hi]
    · simp [nth, List.getD_eq_getElem?_getD, List.getElem?_set, Ne.symm hik, hik]
  have hmap : (D.s.set k { nth D.s k with next := some v }).map blkV = D.s.map blkV := by
    apply List.ext_getElem?
    intro i
    by_cases hi : i < D.s.length
    · simp only [List.getElem?_map, List.getElem?_set]
      by_cases hik : k = i
      · subst hik
        simp [hi, blkV, nth, List.getD_eq_getElem?_getD]
      · simp [hik]
    · have e1 : (D.s.set k { nth D.s k with next := some v })[i]? = none := List.getElem?_eq_none (by rw [List.length_set]; omega)
      have e2 : D.s[i]? = none := List.getElem?_eq_none (by omega)
      rw [List.getElem?_map, List.getElem?_map, e1, e2]
  have hlen : (D.s.set k { nth D.s k with next := some v }).length = D.s.length := by simp
  refine ⟨⟨by simpa using ok.pos, by simpa using ok.len, ok.left⟩, ⟨lv, l1, ?_⟩, ?_, ⟨_, _, get_put_old p1, ?_⟩, ⟨c', es', ?_, ?_⟩, n1, n2, n3, n4, n5, n6⟩
  · rw [get_put_ne (by assumption)]; simpa using l2
  · rw [get_put_ne (by assumption)]; simp only [hmap]; exact blk
  · simp only [hlen]
    refine (p2.put hk (nextV v) c).congr (fun i hi => ?_) (fun i hi => ?_)
    · unfold upd pendF
      rw [hlen, if_pos hi, hnth i hi]
      split
      · rfl
      · rfl
    · unfold pendF; rw [hlen, if_neg (by omega)]
  · rw [get_put_ne (Ne.symm n6)]; exact w1
  · simp only [hlen]
    refine w2.congr (fun i hi => ?_) (fun i hi => ?_)
    · unfold wornF
      rw [hlen, hnth i hi]
      split
      · rename_i q
        rw [if_pos]
        refine ⟨q.1, ?_⟩
        split
        · rename_i e; subst e; exact q.2
        · exact q.2
      · rename_i q
        rw [if_neg]
        rintro ⟨q1, q2⟩
        apply q
        refine ⟨q1, ?_⟩
        split at q2
        · rename_i e; subst e; exact q2
        · exact q2
    · unfold wornF; rw [hlen, if_neg (by omega)]

theorem plain_bytes (l : List UInt8) : plain (.agg (l.map byteV)) = true := by
  exact byteV_one l
theorem bytes_rp (s : List UInt8) (hs : s.length = 64) : (s.take 64).map byteV = s.map byteV := by rw [List.take_of_length_le (by omega)]

theorem write_c (P : PD h d b p w D) (i : Int) (s : List UInt8) (hs : s.length ≤ 9223372036854775807) : CV F 17 [.ptr d 0, .int .i64 i, .str s] h (fun v h' => v = .int .i64 (D.write i s).1 ∧ PD h' d b p w (D.write i s).2 ∧ Fr (PS d b p w) h h') := by
  have P0 := P
  obtain ⟨ok, ⟨lv, l1, l2⟩, blk, ⟨c, es, p1, p2⟩, wo, ne⟩ := P
  have hlen := ok.len
  refine CV_wp (fn := c17) rfl ?_
  dsimp only [c17]
  by_cases hoff : D.off = true
  · have hC := cv_rw (check_21 P0 hoff i)
    try simp (maxSteps := 4000000) (disch := first | assumption | omega | (simp only [push_next, put_next, empty_next, List.length_cons, List.length_nil] <;> omega) | exact _root_.id rfl | exact _root_.id (fun _ => rfl) | fail) only [↓pre, post, Int.reduceEq, Int.reduceLT, Int.reduceLE, Int.reduceAdd, Int.reduceSub, Int.reduceMul, Int.reduceNeg, Nat.reduceLT, Nat.reduceSub, Nat.reduceMul, Nat.reduceAdd, Nat.reduceLeDiff, reduceIte, reduceCtorEq, Nat.reduceEqDiff, hC]
    repeat' (first
      | (refine ifP_pos (by first | assumption | omega) ?_ <;> try simp (maxSteps := 4000000) (disch := first | assumption | omega | (simp only [push_next, put_next, empty_next, List.length_cons, List.length_nil] <;> omega) | exact _root_.id rfl | exact _root_.id (fun _ => rfl) | fail) only [↓pre, post, Int.reduceEq, Int.reduceLT, Int.reduceLE, Int.reduceAdd, Int.reduceSub, Int.reduceMul, Int.reduceNeg, Nat.reduceLT, Nat.reduceSub, Nat.reduceMul, Nat.reduceAdd, Nat.reduceLeDiff, reduceIte, reduceCtorEq, Nat.reduceEqDiff, hC])
      | (refine ifP_neg (by first | assumption | omega) ?_ <;> try simp (maxSteps := 4000000) (disch := first | assumption | omega | (simp only [push_next, put_next, empty_next, List.length_cons, List.length_nil] <;> omega) | exact _root_.id rfl | exact _root_.id (fun _ => rfl) | fail) only [↓pre, post, Int.reduceEq, Int.reduceLT, Int.reduceLE, Int.reduceAdd, Int.reduceSub, Int.reduceMul, Int.reduceNeg, Nat.reduceLT, Nat.reduceSub, Nat.reduceMul, Nat.reduceAdd, Nat.reduceLeDiff, reduceIte, reduceCtorEq, Nat.reduceEqDiff, hC])
      | (refine ifP_intro (fun hyp => ?_) (fun hyp => ?_) <;> first | simp (maxSteps := 4000000) (disch := first | assumption | omega | (simp only [push_next, put_next, empty_next, List.length_cons, List.length_nil] <;> omega) | exact _root_.id rfl | exact _root_.id (fun _ => rfl) | fail) only [↓pre, post, Int.reduceEq, Int.reduceLT, Int.reduceLE, Int.reduceAdd, Int.reduceSub, Int.reduceMul, Int.reduceNeg, Nat.reduceLT, Nat.reduceSub, Nat.reduceMul, Nat.reduceAdd, Nat.reduceLeDiff, reduceIte, reduceCtorEq, Nat.reduceEqDiff, hC, eq_false hyp] | simp (maxSteps := 4000000) (disch := first | assumption | omega | (simp only [push_next, put_next, empty_next, List.length_cons, List.length_nil] <;> omega) | exact _root_.id rfl | exact _root_.id (fun _ => rfl) | fail) only [↓pre, post, Int.reduceEq, Int.reduceLT, Int.reduceLE, Int.reduceAdd, Int.reduceSub, Int.reduceMul, Int.reduceNeg, Nat.reduceLT, Nat.reduceSub, Nat.reduceMul, Nat.reduceAdd, Nat.reduceLeDiff, reduceIte, reduceCtorEq, Nat.reduceEqDiff, hC, eq_true hyp] | skip))
    simp [Dsk.write, hoff]
    exact ⟨P0, Fr.refl _ _⟩
  simp only [Bool.not_eq_true] at hoff
  by_cases hi : i < 0 ∨ (D.s.length : Int) ≤ i
  · have hC := cv_rw (check_1 P0 hoff hi)
    try simp (maxSteps := 4000000) (disch := first | assumption | omega | (simp only [push_next, put_next, empty_next, List.length_cons, List.length_nil] <;> omega) | exact _root_.id rfl | exact _root_.id (fun _ => rfl) | fail) only [↓pre, post, Int.reduceEq, Int.reduceLT, Int.reduceLE, Int.reduceAdd, Int.reduceSub, Int.reduceMul, Int.reduceNeg, Nat.reduceLT, Nat.reduceSub, Nat.reduceMul, Nat.reduceAdd, Nat.reduceLeDiff, reduceIte, reduceCtorEq, Nat.reduceEqDiff, hC]
    repeat' (first
      | (refine ifP_pos (by first | assumption | omega) ?_ <;> try simp (maxSteps := 4000000) (disch := first | assumption | omega | (simp only [push_next, put_next, empty_next, List.length_cons, List.length_nil] <;> omega) | exact _root_.id rfl | exact _root_.id (fun _ => rfl) | fail) only [↓pre, post, Int.reduceEq, Int.reduceLT, Int.reduceLE, Int.reduceAdd, Int.reduceSub, Int.reduceMul, Int.reduceNeg, Nat.reduceLT, Nat.reduceSub, Nat.reduceMul, Nat.reduceAdd, Nat.reduceLeDiff, reduceIte, reduceCtorEq, Nat.reduceEqDiff, hC])
      | (refine ifP_neg (by first | assumption | omega) ?_ <;> try simp (maxSteps := 4000000) (disch := first | assumption | omega | (simp only [push_next, put_next, empty_next, List.length_cons, List.length_nil] <;> omega) | exact _root_.id rfl | exact _root_.id (fun _ => rfl) | fail) only [↓pre, post, Int.reduceEq, Int.reduceLT, Int.reduceLE, Int.reduceAdd, Int.reduceSub, Int.reduceMul, Int.reduceNeg, Nat.reduceLT, Nat.reduceSub, Nat.reduceMul, Nat.reduceAdd, Nat.reduceLeDiff, reduceIte, reduceCtorEq, Nat.reduceEqDiff, hC])
      | (refine ifP_intro (fun hyp => ?_) (fun hyp => ?_) <;> first | simp (maxSteps := 4000000) (disch := first | assumption | omega | (simp only [push_next, put_next, empty_next, List.length_cons, List.length_nil] <;> omega) | exact _root_.id rfl | exact _root_.id (fun _ => rfl) | fail) only [↓pre, post, Int.reduceEq, Int.reduceLT, Int.reduceLE, Int.reduceAdd, Int.reduceSub, Int.reduceMul, Int.reduceNeg, Nat.reduceLT, Nat.reduceSub, Nat.reduceMul, Nat.reduceAdd, Nat.reduceLeDiff, reduceIte, reduceCtorEq, Nat.reduceEqDiff, hC, eq_false hyp] | simp (maxSteps := 4000000) (disch := first | assumption | omega | (simp only [push_next, put_next, empty_next, List.length_cons, List.length_nil] <;> omega) | exact _root_.id rfl | exact _root_.id (fun _ => rfl) | fail) only [↓pre, post, Int.reduceEq, Int.reduceLT, Int.reduceLE, Int.reduceAdd, Int.reduceSub, Int.reduceMul, Int.reduceNeg, Nat.reduceLT, Nat.reduceSub, Nat.reduceMul, Nat.reduceAdd, Nat.reduceLeDiff, reduceIte, reduceCtorEq, Nat.reduceEqDiff, hC, eq_true hyp] | skip))
    simp [Dsk.write, hoff, hi]
    exact ⟨P0, Fr.refl _ _⟩
  obtain ⟨k, rfl⟩ : ∃ k : Nat, i = (k : Int) := ⟨i.toNat, by omega⟩
  have hk : k < D.s.length := by omega
  have hC := cv_rw (check_0 P0 hoff (i := (k : Int)) (by omega) (by omega))
  by_cases h64 : s.length = 64
  · have t64 : s.take 64 = s := List.take_of_length_le (by omega)
    try simp (maxSteps := 4000000) (disch := first | assumption | omega | (simp only [push_next, put_next, empty_next, List.length_cons, List.length_nil] <;> omega) | exact _root_.id rfl | exact _root_.id (fun _ => rfl) | fail) only [↓pre, post, Int.reduceEq, Int.reduceLT, Int.reduceLE, Int.reduceAdd, Int.reduceSub, Int.reduceMul, Int.reduceNeg, Nat.reduceLT, Nat.reduceSub, Nat.reduceMul, Nat.reduceAdd, Nat.reduceLeDiff, reduceIte, reduceCtorEq, Nat.reduceEqDiff, hC]
    repeat' (first
      | (refine ifP_pos (by first | assumption | omega) ?_ <;> try simp (maxSteps := 4000000) (disch := first | assumption | omega | (simp only [push_next, put_next, empty_next, List.length_cons, List.length_nil] <;> omega) | exact _root_.id rfl | exact _root_.id (fun _ => rfl) | fail) only [↓pre, post, Int.reduceEq, Int.reduceLT, Int.reduceLE, Int.reduceAdd, Int.reduceSub, Int.reduceMul, Int.reduceNeg, Nat.reduceLT, Nat.reduceSub, Nat.reduceMul, Nat.reduceAdd, Nat.reduceLeDiff, reduceIte, reduceCtorEq, Nat.reduceEqDiff, hC])
      | (refine ifP_neg (by first | assumption | omega) ?_ <;> try simp (maxSteps := 4000000) (disch := first | assumption | omega | (simp only [push_next, put_next, empty_next, List.length_cons, List.length_nil] <;> omega) | exact _root_.id rfl | exact _root_.id (fun _ => rfl) | fail) only [↓pre, post, Int.reduceEq, Int.reduceLT, Int.reduceLE, Int.reduceAdd, Int.reduceSub, Int.reduceMul, Int.reduceNeg, Nat.reduceLT, Nat.reduceSub, Nat.reduceMul, Nat.reduceAdd, Nat.reduceLeDiff, reduceIte, reduceCtorEq, Nat.reduceEqDiff, hC])
      | (refine ifP_intro (fun hyp => ?_) (fun hyp => ?_) <;> first | simp (maxSteps := 4000000) (disch := first | assumption | omega | (simp only [push_next, put_next, empty_next, List.length_cons, List.length_nil] <;> omega) | exact _root_.id rfl | exact _root_.id (fun _ => rfl) | fail) only [↓pre, post, Int.reduceEq, Int.reduceLT, Int.reduceLE, Int.reduceAdd, Int.reduceSub, Int.reduceMul, Int.reduceNeg, Nat.reduceLT, Nat.reduceSub, Nat.reduceMul, Nat.reduceAdd, Nat.reduceLeDiff, reduceIte, reduceCtorEq, Nat.reduceEqDiff, hC, eq_false hyp] | simp (maxSteps := 4000000) (disch := first | assumption | omega | (simp only [push_next, put_next, empty_next, List.length_cons, List.length_nil] <;> omega) | exact _root_.id rfl | exact _root_.id (fun _ => rfl) | fail) only [↓pre, post, Int.reduceEq, Int.reduceLT, Int.reduceLE, Int.reduceAdd, Int.reduceSub, Int.reduceMul, Int.reduceNeg, Nat.reduceLT, Nat.reduceSub, Nat.reduceMul, Nat.reduceAdd, Nat.reduceLeDiff, reduceIte, reduceCtorEq, Nat.reduceEqDiff, hC, eq_true hyp] | skip))
    refine CV_mono (step_c P0) ?_
    rintro v h1 ⟨⟨q, rfl, P1⟩ | ⟨q, rfl, P1⟩, hF⟩
    · try simp (maxSteps := 4000000) (disch := first | assumption | omega | (simp only [push_next, put_next, empty_next, List.length_cons, List.length_nil] <;> omega) | exact _root_.id rfl | exact _root_.id (fun _ => rfl) | fail) only [↓pre, post, Int.reduceEq, Int.reduceLT, Int.reduceLE, Int.reduceAdd, Int.reduceSub, Int.reduceMul, Int.reduceNeg, Nat.reduceLT, Nat.reduceSub, Nat.reduceMul, Nat.reduceAdd, Nat.reduceLeDiff, reduceIte, reduceCtorEq, Nat.reduceEqDiff]
      repeat' (first
        | (refine ifP_pos (by first | assumption | omega) ?_ <;> try simp (maxSteps := 4000000) (disch := first | assumption | omega | (simp only [push_next, put_next, empty_next, List.length_cons, List.length_nil] <;> omega) | exact _root_.id rfl | exact _root_.id (fun _ => rfl) | fail) only [↓pre, post, Int.reduceEq, Int.reduceLT, Int.reduceLE, Int.reduceAdd, Int.reduceSub, Int.reduceMul, Int.reduceNeg, Nat.reduceLT, Nat.reduceSub, Nat.reduceMul, Nat.reduceAdd, Nat.reduceLeDiff, reduceIte, reduceCtorEq, Nat.reduceEqDiff])
        | (refine ifP_neg (by first | assumption | omega) ?_ <;> try simp (maxSteps := 4000000) (disch := first | assumption | omega | (simp only [push_next, put_next, empty_next, List.length_cons, List.length_nil] <;> omega) | exact _root_.id rfl | exact _root_.id (fun _ => rfl) | fail) only [↓pre, post, Int.reduceEq, Int.reduceLT, Int.reduceLE, Int.reduceAdd, Int.reduceSub, Int.reduceMul, Int.reduceNeg, Nat.reduceLT, Nat.reduceSub, Nat.reduceMul, Nat.reduceAdd, Nat.reduceLeDiff, reduceIte, reduceCtorEq, Nat.reduceEqDiff])
        | (refine ifP_intro (fun hyp => ?_) (fun hyp => ?_) <;> first | simp (maxSteps := 4000000) (disch := first | assumption | omega | (simp only [push_next, put_next, empty_next, List.length_cons, List.length_nil] <;> omega) | exact _root_.id rfl | exact _root_.id (fun _ => rfl) | fail) only [↓pre, post, Int.reduceEq, Int.reduceLT, Int.reduceLE, Int.reduceAdd, Int.reduceSub, Int.reduceMul, Int.reduceNeg, Nat.reduceLT, Nat.reduceSub, Nat.reduceMul, Nat.reduceAdd, Nat.reduceLeDiff, reduceIte, reduceCtorEq, Nat.reduceEqDiff, eq_false hyp] | simp (maxSteps := 4000000) (disch := first | assumption | omega | (simp only [push_next, put_next, empty_next, List.length_cons, List.length_nil] <;> omega) | exact _root_.id rfl | exact _root_.id (fun _ => rfl) | fail) only [↓pre, post, Int.reduceEq, Int.reduceLT, Int.reduceLE, Int.reduceAdd, Int.reduceSub, Int.reduceMul, Int.reduceNeg, Nat.reduceLT, Nat.reduceSub, Nat.reduceMul, Nat.reduceAdd, Nat.reduceLeDiff, reduceIte, reduceCtorEq, Nat.reduceEqDiff, eq_true hyp] | skip))
      rw [show D.write (k : Int) s = (21, { D with off := true }) by unfold Dsk.write; rw [hoff, if_neg (by simp), if_neg hi, dif_pos h64, if_pos q]]
      exact ⟨rfl, P1, hF⟩
    · have P2 := P1
      obtain ⟨ok', ⟨lv', l1', l2'⟩, blk', ⟨c', es', p1', p2'⟩, wo', ne'⟩ := P1
      have hb6 : (List.map byteV s).length = 64 := by simp [h64]
      have hbt : List.take 64 (List.map byteV s) = List.map byteV s := List.take_of_length_le (by omega)
      try simp (maxSteps := 4000000) (disch := first | assumption | omega | (simp only [push_next, put_next, empty_next, List.length_cons, List.length_nil] <;> omega) | exact _root_.id rfl | exact _root_.id (fun _ => rfl) | fail) only [↓pre, post, Int.reduceEq, Int.reduceLT, Int.reduceLE, Int.reduceAdd, Int.reduceSub, Int.reduceMul, Int.reduceNeg, Nat.reduceLT, Nat.reduceSub, Nat.reduceMul, Nat.reduceAdd, Nat.reduceLeDiff, reduceIte, reduceCtorEq, Nat.reduceEqDiff, l2', p1', t64, hb6, hbt, putM_map (plain_bytes s), h64]
      repeat' (first
        | (refine ifP_pos (by first | assumption | omega) ?_ <;> try simp (maxSteps := 4000000) (disch := first | assumption | omega | (simp only [push_next, put_next, empty_next, List.length_cons, List.length_nil] <;> omega) | exact _root_.id rfl | exact _root_.id (fun _ => rfl) | fail) only [↓pre, post, Int.reduceEq, Int.reduceLT, Int.reduceLE, Int.reduceAdd, Int.reduceSub, Int.reduceMul, Int.reduceNeg, Nat.reduceLT, Nat.reduceSub, Nat.reduceMul, Nat.reduceAdd, Nat.reduceLeDiff, reduceIte, reduceCtorEq, Nat.reduceEqDiff, l2', p1', t64, hb6, hbt, putM_map (plain_bytes s), h64])
        | (refine ifP_neg (by first | assumption | omega) ?_ <;> try simp (maxSteps := 4000000) (disch := first | assumption | omega | (simp only [push_next, put_next, empty_next, List.length_cons, List.length_nil] <;> omega) | exact _root_.id rfl | exact _root_.id (fun _ => rfl) | fail) only [↓pre, post, Int.reduceEq, Int.reduceLT, Int.reduceLE, Int.reduceAdd, Int.reduceSub, Int.reduceMul, Int.reduceNeg, Nat.reduceLT, Nat.reduceSub, Nat.reduceMul, Nat.reduceAdd, Nat.reduceLeDiff, reduceIte, reduceCtorEq, Nat.reduceEqDiff, l2', p1', t64, hb6, hbt, putM_map (plain_bytes s), h64])
        | (refine ifP_intro (fun hyp => ?_) (fun hyp => ?_) <;> first | simp (maxSteps := 4000000) (disch := first | assumption | omega | (simp only [push_next, put_next, empty_next, List.length_cons, List.length_nil] <;> omega) | exact _root_.id rfl | exact _root_.id (fun _ => rfl) | fail) only [↓pre, post, Int.reduceEq, Int.reduceLT, Int.reduceLE, Int.reduceAdd, Int.reduceSub, Int.reduceMul, Int.reduceNeg, Nat.reduceLT, Nat.reduceSub, Nat.reduceMul, Nat.reduceAdd, Nat.reduceLeDiff, reduceIte, reduceCtorEq, Nat.reduceEqDiff, l2', p1', t64, hb6, hbt, putM_map (plain_bytes s), h64, eq_false hyp] | simp (maxSteps := 4000000) (disch := first | assumption | omega | (simp only [push_next, put_next, empty_next, List.length_cons, List.length_nil] <;> omega) | exact _root_.id rfl | exact _root_.id (fun _ => rfl) | fail) only [↓pre, post, Int.reduceEq, Int.reduceLT, Int.reduceLE, Int.reduceAdd, Int.reduceSub, Int.reduceMul, Int.reduceNeg, Nat.reduceLT, Nat.reduceSub, Nat.reduceMul, Nat.reduceAdd, Nat.reduceLeDiff, reduceIte, reduceCtorEq, Nat.reduceEqDiff, l2', p1', t64, hb6, hbt, putM_map (plain_bytes s), h64, eq_true hyp] | skip))
      rw [show D.write (k : Int) s = (0, { D with left := stepL D.left, s := D.s.set k { nth D.s k with next := some ⟨s, h64⟩ } }) by unfold Dsk.write; rw [hoff, if_neg (by simp), if_neg hi, dif_pos h64, if_neg q]; simp]
      exact ⟨rfl, P2.putNext p1' p2' (k := k) hk ⟨s, h64⟩, hF.put (.inl (.inr (.inr (.inl rfl)))) _⟩
  · try simp (maxSteps := 4000000) (disch := first | assumption | omega | (simp only [push_next, put_next, empty_next, List.length_cons, List.length_nil] <;> omega) | exact _root_.id rfl | exact _root_.id (fun _ => rfl) | fail) only [↓pre, post, Int.reduceEq, Int.reduceLT, Int.reduceLE, Int.reduceAdd, Int.reduceSub, Int.reduceMul, Int.reduceNeg, Nat.reduceLT, Nat.reduceSub, Nat.reduceMul, Nat.reduceAdd, Nat.reduceLeDiff, reduceIte, reduceCtorEq, Nat.reduceEqDiff, hC]
    repeat' (first
      | (refine ifP_pos (by first | assumption | omega) ?_ <;> try simp (maxSteps := 4000000) (disch := first | assumption | omega | (simp only [push_next, put_next, empty_next, List.length_cons, List.length_nil] <;> omega) | exact _root_.id rfl | exact _root_.id (fun _ => rfl) | fail) only [↓pre, post, Int.reduceEq, Int.reduceLT, Int.reduceLE, Int.reduceAdd, Int.reduceSub, Int.reduceMul, Int.reduceNeg, Nat.reduceLT, Nat.reduceSub, Nat.reduceMul, Nat.reduceAdd, Nat.reduceLeDiff, reduceIte, reduceCtorEq, Nat.reduceEqDiff, hC])
      | (refine ifP_neg (by first | assumption | omega) ?_ <;> try simp (maxSteps := 4000000) (disch := first | assumption | omega | (simp only [push_next, put_next, empty_next, List.length_cons, List.length_nil] <;> omega) | exact _root_.id rfl | exact _root_.id (fun _ => rfl) | fail) only [↓pre, post, Int.reduceEq, Int.reduceLT, Int.reduceLE, Int.reduceAdd, Int.reduceSub, Int.reduceMul, Int.reduceNeg, Nat.reduceLT, Nat.reduceSub, Nat.reduceMul, Nat.reduceAdd, Nat.reduceLeDiff, reduceIte, reduceCtorEq, Nat.reduceEqDiff, hC])
      | (refine ifP_intro (fun hyp => ?_) (fun hyp => ?_) <;> first | simp (maxSteps := 4000000) (disch := first | assumption | omega | (simp only [push_next, put_next, empty_next, List.length_cons, List.length_nil] <;> omega) | exact _root_.id rfl | exact _root_.id (fun _ => rfl) | fail) only [↓pre, post, Int.reduceEq, Int.reduceLT, Int.reduceLE, Int.reduceAdd, Int.reduceSub, Int.reduceMul, Int.reduceNeg, Nat.reduceLT, Nat.reduceSub, Nat.reduceMul, Nat.reduceAdd, Nat.reduceLeDiff, reduceIte, reduceCtorEq, Nat.reduceEqDiff, hC, eq_false hyp] | simp (maxSteps := 4000000) (disch := first | assumption | omega | (simp only [push_next, put_next, empty_next, List.length_cons, List.length_nil] <;> omega) | exact _root_.id rfl | exact _root_.id (fun _ => rfl) | fail) only [↓pre, post, Int.reduceEq, Int.reduceLT, Int.reduceLE, Int.reduceAdd, Int.reduceSub, Int.reduceMul, Int.reduceNeg, Nat.reduceLT, Nat.reduceSub, Nat.reduceMul, Nat.reduceAdd, Nat.reduceLeDiff, reduceIte, reduceCtorEq, Nat.reduceEqDiff, hC, eq_true hyp] | skip))
    rw [show D.write (k : Int) s = (1, D) by unfold Dsk.write; rw [hoff, if_neg (by simp), if_neg hi, dif_neg h64]]
    exact ⟨rfl, P0, Fr.refl _ _⟩
end Go.Proofs.Ytjofjgflcogklaa

/-
  settle, Wear and Rot of the program's disk.
-/
set_option linter.unusedSimpArgs false
set_option linter.unusedVariables false
set_option maxHeartbeats 4000000
namespace Go.Abs
variable {F : Nat → Option AEnt} {ev : Opd → AVal} {h : Heap} {K : AVal → Heap → Prop}
/-- The greater or the smaller of two numbers. -/
def mnxA (mx : Bool) (x y : AVal) : Option AVal := match x, y with
  | .int k a, .int _ b => some (.int k (if mx then (if a < b then b else a) else (if b < a then b else a)))
  | _, _ => none
theorem XW_mnxK {mx : Bool} {x y : Opd} : XW F (.mnx mx x y) ev h K ↔ bindK (mnxA mx (ev x) (ev y)) K h := by
  refine XW_val (fun _ => rfl) ?_
  simp only [evalA, mnxA]
  cases ev x <;> cases ev y <;> rfl
theorem mnx_max (k k' : IntKind) (a b : Int) : mnxA true (.int k a) (.int k' b) = some (.int k (max a b)) := by
  simp only [mnxA, if_true]
  congr 2
  rw [Int.max_def]
  split <;> split <;> omega
theorem mnx_min (k k' : IntKind) (a b : Int) : mnxA false (.int k a) (.int k' b) = some (.int k (min a b)) := by
  simp only [mnxA, Bool.false_eq_true, if_false]
  congr 2
  rw [Int.min_def]
  split <;> split <;> omega
end Go.Abs
namespace Go.Proofs.Ytjofjgflcogklaa
open Go Go.Abs
variable {h : Heap} {d b p w r s : Nat} {D : Dsk}

theorem cells_bytes : ∀ (l l' : List UInt8), l.length = l'.length → cellsEq (List.replicate l.length .int) (l.map byteV) (l'.map byteV) = some (decide (l = l'))
  | [], [], _ => rfl
  | a :: l, b :: l', hl => by
    have ih := cells_bytes l l' (by simpa using hl)
    simp only [List.length_cons, List.replicate_succ, List.map_cons, cellsEq]
    by_cases hab : a = b
    · subst hab
      simp [cellEq, byteV, ih]
    · have : ((a.toNat : Int) == (b.toNat : Int)) = false := by
        rw [beq_eq_false_iff_ne]
        exact fun q => hab (UInt8.toNat_inj.1 (by omega))
      simp only [cellEq, byteV, this, if_true]
      simp [hab]
  | [], _ :: _, h => by simp at h
  | _ :: _, [], h => by simp at h

theorem cells_blk (v : B64) (x : Sec) : cellsEq cks (v.1.map byteV) (x.text.1.map byteV) = some (decide (v.1 = x.text.1)) := by
  have := cells_bytes v.1 x.text.1 (by rw [v.2, x.text.2])
  rw [v.2] at this
  exact this

theorem copyA_rows {b x m : Nat} {sz sx : Nat} {ag ax : Bool} {mx : Bool} {cs xs : List AVal} {off : Nat} (hb : h.get b = some (.row true sz ag cs)) (hx : h.get x = some (.row mx sx ax xs)) (hl : xs.length = 64) (ho : off + m ≤ cs.length) (hm : m ≤ 64) (h1 : xs.all AVal.one = true) :
    copyA 1 (.ref b off m 1) (.ref x 0 64 1) h = some (.int .i64 m, h.put b (some (.row true sz ag (setCells cs off (xs.take m))))) := by
  have e : elemsA h 1 (.ref x 0 64 1) = some xs := by
    simp only [elemsA, if_true, hx, hl]
    simp [List.take_of_length_le (show xs.length ≤ 64 by omega)]
  have hmin : min 64 m = m := by omega
  simp only [copyA, e, lenA, hb, hmin, Nat.mul_one, true_and, ho, h1]
  simp

theorem setCells_pre : ∀ (ys a : List AVal), ys.length ≤ a.length → setCells a 0 ys = ys ++ a.drop ys.length := by
  intro ys a hl
  have := setCells_append_left ys (a.take ys.length) (a.drop ys.length) 0 (by simp; omega)
  rw [List.take_append_drop] at this
  rw [this, setCells_all _ _ (by simp; omega)]

theorem set_blk (l : List Sec) {k : Nat} (hk : k < l.length) (x : Sec) (v : B64) {m : Nat} (hm : m ≤ 64) (ht : x.text = mix v (nth l k).text m hm) : setCells (flat (l.map blkV)) (k * 64) ((nextV v).cells.take m) = flat ((l.set k x).map blkV) := by
  have hln := (nth l k).text.2
  have hlv := v.2
  have := setCells_flat (f := blkV) (sz := 64) blkV_len l (n := k) (k := 0) (ys := (nextV v).cells.take m) (x' := x) hk (by rw [List.length_take, nextV_len]; omega) (by
    rw [setCells_pre _ _ (by rw [List.length_take, nextV_len, blkV_len]; omega)]
    have hm' : ((nextV v).cells.take m).length = m := by rw [List.length_take, nextV_len]; omega
    rw [hm']
    show x.text.1.map byteV = _
    rw [ht]
    show ((v.1.take m) ++ (nth l k).text.1.drop m).map byteV = (v.1.map byteV).take m ++ ((nth l k).text.1.map byteV).drop m
    rw [List.map_append, List.map_take, List.map_drop])
  simpa using this

theorem mix_same (v : B64) (m : Nat) (hm : m ≤ 64) : mix v v m hm = v := by
  unfold mix
  apply Subtype.ext
  exact List.take_append_drop m v.1

theorem nth_set {l : List Sec} {k : Nat} (x : Sec) (hk : k < l.length) (i : Nat) : nth (l.set k x) i = if i = k then x else nth l i := by
  by_cases hik : i = k
  · subst hik; simp [nth, List.getD_eq_getElem?_getD, hk]
  · simp [nth, List.getD_eq_getElem?_getD, List.getElem?_set, Ne.symm hik, hik]

/-- A disk whose sector k was turned: how it must lie. -/
theorem PD.turn {h h' : Heap} (P : PD h d b p w D) {k : Nat} (hk : k < D.s.length) (x : Sec) (hd : h'.get d = h.get d)
    (hb : h'.get b = some (.row true 64 true (flat ((D.s.set k x).map blkV))))
    (hp : ∃ c es, h'.get p = some (.map (.int .i64) c es) ∧ MapIs es D.s.length (upd (pendF D.s) k (x.next.map nextV)))
    (hw : ∃ c es, h'.get w = some (.map (.int .i64) c es) ∧ MapIs es D.s.length (upd (wornF D.s) k (if x.worn then some (.bool true) else none))) :
    PD h' d b p w { D with s := D.s.set k x } := by
  obtain ⟨ok, ⟨lv, l1, l2⟩, blk, pe, wo, n⟩ := P
  obtain ⟨c, es, p1, p2⟩ := hp
  obtain ⟨c', es', w1, w2⟩ := hw
  have hlen : (D.s.set k x).length = D.s.length := by simp
  refine ⟨⟨by simpa using ok.pos, by simpa using ok.len, ok.left⟩, ⟨lv, l1, by rw [hd, l2]; simp⟩, hb, ⟨c, es, p1, ?_⟩, ⟨c', es', w1, ?_⟩, n⟩
  · simp only [hlen]
    refine p2.congr (fun i hi => ?_) (fun i hi => ?_)
    · unfold upd pendF
      rw [hlen, if_pos hi, if_pos hi, nth_set x hk]
      split <;> rfl
    · unfold pendF; rw [hlen, if_neg (by omega)]
  · simp only [hlen]
    refine w2.congr (fun i hi => ?_) (fun i hi => ?_)
    · unfold upd wornF
      rw [hlen, nth_set x hk]
      by_cases hik : i = k
      · subst hik
        rw [if_pos rfl, if_pos rfl]
        by_cases hx : x.worn = true
        · rw [if_pos hx, if_pos ⟨hi, hx⟩]
        · rw [if_neg hx, if_neg (fun q => hx q.2)]
      · rw [if_neg hik, if_neg hik]
    · unfold wornF; rw [hlen, if_neg (by omega)]

theorem upd_same {f : Nat → Option AVal} {k : Nat} {v : Option AVal} (h : f k = v) : upd f k v = f := by
  funext i
  unfold upd
  split
  · rename_i q; subst q; exact h.symm
  · rfl

theorem wornF_at {l : List Sec} {k : Nat} (hk : k < l.length) : wornF l k = if (nth l k).worn then some (.bool true) else none := by
  unfold wornF
  by_cases hx : (nth l k).worn = true
  · rw [if_pos hx, if_pos ⟨hk, hx⟩]
  · rw [if_neg hx, if_neg (fun q => hx q.2)]

theorem pendF_at {l : List Sec} {k : Nat} (hk : k < l.length) : pendF l k = (nth l k).next.map nextV := if_pos hk

theorem settle_c (P : PD h d b p w D) {k : Nat} (hk : k < D.s.length) {v : B64} (hv : (nth D.s k).next = some v) (pp : Int) :
    CV F 51 [.ptr d 0, .int .i64 (k : Int), .int .i64 pp] h (fun _ h' => PD h' d b p w { D with s := D.s.set k (settle (nth D.s k) pp) } ∧ Fr (PS d b p w) h h') := by
  have P0 := P
  obtain ⟨ok, ⟨lv, l1, l2⟩, blk, ⟨c, es, p1, p2⟩, ⟨c', es', w1, w2⟩, n1, n2, n3, n4, n5, n6⟩ := P
  have hlen := ok.len
  refine CV_wp (fn := c51) rfl ?_
  dsimp only [c51]
  simp only [z64, ck64]
  have hd := P0.lt d (.inl rfl)
  have hb := P0.lt b (.inr (.inl rfl))
  have hp := P0.lt p (.inr (.inr (.inl rfl)))
  have hw := P0.lt w (.inr (.inr (.inr rfl)))
  obtain ⟨j, hL⟩ := p2.getS (i := k) (v := nextV v) (by rw [pendF_at hk, hv]; rfl)
  have Lb : ∀ (mu : Bool) (s : Nat) (a : Bool), loadG 64 true (k * 64) (some (.row mu s a (flat (D.s.map blkV)))) = some (blkV (nth D.s k)) := fun mu s a => by
    rw [loadG_flat0 (f := blkV) (sz := 64) blkV_len D.s true mu s a hk (by omega), List.take_of_length_le (by rw [blkV_len]; exact Nat.le_refl _)]; rfl
  have hG : ∀ (H : Heap), (∀ i, i ≠ b → i < h.next → H.get i = (h.put p (some (.map (.int .i64) c (mdelE (.int .i64) (.int .i64 (k : Int)) es)))).get i) → h.next ≤ H.next → H.get b = some (.row true 64 true (flat ((D.s.set k (settle (nth D.s k) pp)).map blkV))) →
      PD H d b p w { D with s := D.s.set k (settle (nth D.s k) pp) } ∧ Fr (PS d b p w) h H := by
    intro H hH hHn hHb
    have hsn : (settle (nth D.s k) pp).next = none := by unfold settle; rw [hv]
    have hsw : (settle (nth D.s k) pp).worn = (nth D.s k).worn := by unfold settle; rw [hv]
    refine ⟨P0.turn hk _ ?_ hHb ⟨c, _, by rw [hH p (Ne.symm n4) hp]; exact get_put_old p1, by rw [hsn]; exact p2.del k⟩ ⟨c', es', by rw [hH w (Ne.symm n5) hw, get_put_ne (Ne.symm n6)]; exact w1, ?_⟩, hHn, fun i hi hS => ?_⟩
    · rw [hH d n1 hd, get_put_ne (by assumption)]
    · rw [hsw, upd_same (wornF_at hk)]; exact w2
    · rw [hH i (fun q => hS (.inr (.inl q))) hi, get_put_ne (fun q => hS (.inr (.inr (.inl q))))]
  have hset : ∀ x : Sec, x.text = (nth D.s k).text → (D.s.set k x).map blkV = D.s.map blkV := fun x hx => by
    apply List.ext_getElem?
    intro i
    simp only [List.getElem?_map, List.getElem?_set]
    by_cases hik : k = i
    · subst hik
      simp [hk, blkV, hx, nth, List.getD_eq_getElem?_getD]
    · simp [hik]
  have t64 : List.take 64 (nextV v).cells = (nextV v).cells := List.take_of_length_le (by rw [nextV_len]; exact Nat.le_refl _)
  cases hx : (nth D.s k).worn with
  | true =>
    obtain ⟨j', hW⟩ := w2.getS (i := k) (v := .bool true) (by rw [wornF_at hk, hx]; rfl)
    try simp (maxSteps := 4000000) (disch := first | assumption | omega | (simp only [push_next, put_next, empty_next, List.length_cons, List.length_nil] <;> omega) | exact _root_.id rfl | exact _root_.id (fun _ => rfl) | fail) only [↓pre, post, Int.reduceEq, Int.reduceLT, Int.reduceLE, Int.reduceAdd, Int.reduceSub, Int.reduceMul, Int.reduceNeg, Nat.reduceLT, Nat.reduceSub, Nat.reduceMul, Nat.reduceAdd, Nat.reduceLeDiff, reduceIte, reduceCtorEq, Nat.reduceEqDiff, l2, p1, w1, lookM_some hL, lookM_some hW, zerosV_len, zerosV_one, nextV_len, nextV_one, setZ]
    repeat' (first
      | (refine ifP_pos (by first | assumption | omega) ?_ <;> try simp (maxSteps := 4000000) (disch := first | assumption | omega | (simp only [push_next, put_next, empty_next, List.length_cons, List.length_nil] <;> omega) | exact _root_.id rfl | exact _root_.id (fun _ => rfl) | fail) only [↓pre, post, Int.reduceEq, Int.reduceLT, Int.reduceLE, Int.reduceAdd, Int.reduceSub, Int.reduceMul, Int.reduceNeg, Nat.reduceLT, Nat.reduceSub, Nat.reduceMul, Nat.reduceAdd, Nat.reduceLeDiff, reduceIte, reduceCtorEq, Nat.reduceEqDiff, l2, p1, w1, lookM_some hL, lookM_some hW, zerosV_len, zerosV_one, nextV_len, nextV_one, setZ])
      | (refine ifP_neg (by first | assumption | omega) ?_ <;> try simp (maxSteps := 4000000) (disch := first | assumption | omega | (simp only [push_next, put_next, empty_next, List.length_cons, List.length_nil] <;> omega) | exact _root_.id rfl | exact _root_.id (fun _ => rfl) | fail) only [↓pre, post, Int.reduceEq, Int.reduceLT, Int.reduceLE, Int.reduceAdd, Int.reduceSub, Int.reduceMul, Int.reduceNeg, Nat.reduceLT, Nat.reduceSub, Nat.reduceMul, Nat.reduceAdd, Nat.reduceLeDiff, reduceIte, reduceCtorEq, Nat.reduceEqDiff, l2, p1, w1, lookM_some hL, lookM_some hW, zerosV_len, zerosV_one, nextV_len, nextV_one, setZ])
      | (refine ifP_intro (fun hyp => ?_) (fun hyp => ?_) <;> first | simp (maxSteps := 4000000) (disch := first | assumption | omega | (simp only [push_next, put_next, empty_next, List.length_cons, List.length_nil] <;> omega) | exact _root_.id rfl | exact _root_.id (fun _ => rfl) | fail) only [↓pre, post, Int.reduceEq, Int.reduceLT, Int.reduceLE, Int.reduceAdd, Int.reduceSub, Int.reduceMul, Int.reduceNeg, Nat.reduceLT, Nat.reduceSub, Nat.reduceMul, Nat.reduceAdd, Nat.reduceLeDiff, reduceIte, reduceCtorEq, Nat.reduceEqDiff, l2, p1, w1, lookM_some hL, lookM_some hW, zerosV_len, zerosV_one, nextV_len, nextV_one, setZ, eq_false hyp] | simp (maxSteps := 4000000) (disch := first | assumption | omega | (simp only [push_next, put_next, empty_next, List.length_cons, List.length_nil] <;> omega) | exact _root_.id rfl | exact _root_.id (fun _ => rfl) | fail) only [↓pre, post, Int.reduceEq, Int.reduceLT, Int.reduceLE, Int.reduceAdd, Int.reduceSub, Int.reduceMul, Int.reduceNeg, Nat.reduceLT, Nat.reduceSub, Nat.reduceMul, Nat.reduceAdd, Nat.reduceLeDiff, reduceIte, reduceCtorEq, Nat.reduceEqDiff, l2, p1, w1, lookM_some hL, lookM_some hW, zerosV_len, zerosV_one, nextV_len, nextV_one, setZ, eq_true hyp] | skip))
    refine hG _ (fun i hi hi' => get_push_ne (by simp only [put_next]; omega)) (by simp only [push_next, put_next]; omega) ?_
    rw [hset _ (by unfold settle; rw [hv]; simp [hx]), get_push_ne (by simp only [put_next]; omega), get_put_ne (by assumption)]; exact blk
  | false =>
    have hW := w2.getN (i := k) (by rw [wornF_at hk, hx]; rfl)
    have hst : (settle (nth D.s k) pp).text = mix v (nth D.s k).text (clampP pp) (clampP_le pp) := by unfold settle; rw [hv]; simp [hx]
    have hN : binA .neq (.struct cks) (.agg (nextV v).cells) (blkV (nth D.s k)) = some (.bool (!decide (v.1 = (nth D.s k).text.1))) := by
      have := cells_blk v (nth D.s k)
      simp only [nextV_cells, blkV, bin_struct_neq, this, Option.map_some]
    by_cases he : v.1 = (nth D.s k).text.1
    · have he' : v = (nth D.s k).text := Subtype.ext he
      rw [decide_eq_true he] at hN
      try simp (maxSteps := 4000000) (disch := first | assumption | omega | (simp only [push_next, put_next, empty_next, List.length_cons, List.length_nil] <;> omega) | exact _root_.id rfl | exact _root_.id (fun _ => rfl) | fail) only [↓pre, post, Int.reduceEq, Int.reduceLT, Int.reduceLE, Int.reduceAdd, Int.reduceSub, Int.reduceMul, Int.reduceNeg, Nat.reduceLT, Nat.reduceSub, Nat.reduceMul, Nat.reduceAdd, Nat.reduceLeDiff, reduceIte, reduceCtorEq, Nat.reduceEqDiff, l2, p1, w1, lookM_some hL, lookM_none hW, zerosV_len, zerosV_one, nextV_len, nextV_one, setZ, blk, Lb, t64, hN]
      repeat' (first
        | (refine ifP_pos (by first | assumption | omega) ?_ <;> try simp (maxSteps := 4000000) (disch := first | assumption | omega | (simp only [push_next, put_next, empty_next, List.length_cons, List.length_nil] <;> omega) | exact _root_.id rfl | exact _root_.id (fun _ => rfl) | fail) only [↓pre, post, Int.reduceEq, Int.reduceLT, Int.reduceLE, Int.reduceAdd, Int.reduceSub, Int.reduceMul, Int.reduceNeg, Nat.reduceLT, Nat.reduceSub, Nat.reduceMul, Nat.reduceAdd, Nat.reduceLeDiff, reduceIte, reduceCtorEq, Nat.reduceEqDiff, l2, p1, w1, lookM_some hL, lookM_none hW, zerosV_len, zerosV_one, nextV_len, nextV_one, setZ, blk, Lb, t64, hN])
        | (refine ifP_neg (by first | assumption | omega) ?_ <;> try simp (maxSteps := 4000000) (disch := first | assumption | omega | (simp only [push_next, put_next, empty_next, List.length_cons, List.length_nil] <;> omega) | exact _root_.id rfl | exact _root_.id (fun _ => rfl) | fail) only [↓pre, post, Int.reduceEq, Int.reduceLT, Int.reduceLE, Int.reduceAdd, Int.reduceSub, Int.reduceMul, Int.reduceNeg, Nat.reduceLT, Nat.reduceSub, Nat.reduceMul, Nat.reduceAdd, Nat.reduceLeDiff, reduceIte, reduceCtorEq, Nat.reduceEqDiff, l2, p1, w1, lookM_some hL, lookM_none hW, zerosV_len, zerosV_one, nextV_len, nextV_one, setZ, blk, Lb, t64, hN])
        | (refine ifP_intro (fun hyp => ?_) (fun hyp => ?_) <;> first | simp (maxSteps := 4000000) (disch := first | assumption | omega | (simp only [push_next, put_next, empty_next, List.length_cons, List.length_nil] <;> omega) | exact _root_.id rfl | exact _root_.id (fun _ => rfl) | fail) only [↓pre, post, Int.reduceEq, Int.reduceLT, Int.reduceLE, Int.reduceAdd, Int.reduceSub, Int.reduceMul, Int.reduceNeg, Nat.reduceLT, Nat.reduceSub, Nat.reduceMul, Nat.reduceAdd, Nat.reduceLeDiff, reduceIte, reduceCtorEq, Nat.reduceEqDiff, l2, p1, w1, lookM_some hL, lookM_none hW, zerosV_len, zerosV_one, nextV_len, nextV_one, setZ, blk, Lb, t64, hN, eq_false hyp] | simp (maxSteps := 4000000) (disch := first | assumption | omega | (simp only [push_next, put_next, empty_next, List.length_cons, List.length_nil] <;> omega) | exact _root_.id rfl | exact _root_.id (fun _ => rfl) | fail) only [↓pre, post, Int.reduceEq, Int.reduceLT, Int.reduceLE, Int.reduceAdd, Int.reduceSub, Int.reduceMul, Int.reduceNeg, Nat.reduceLT, Nat.reduceSub, Nat.reduceMul, Nat.reduceAdd, Nat.reduceLeDiff, reduceIte, reduceCtorEq, Nat.reduceEqDiff, l2, p1, w1, lookM_some hL, lookM_none hW, zerosV_len, zerosV_one, nextV_len, nextV_one, setZ, blk, Lb, t64, hN, eq_true hyp] | skip))
      refine hG _ (fun i hi hi' => get_push_ne (by simp only [put_next]; omega)) (by simp only [push_next, put_next]; omega) ?_
      rw [hset _ (by rw [hst, he', mix_same]), get_push_ne (by simp only [put_next]; omega), get_put_ne (by assumption)]; exact blk
    · rw [decide_eq_false he] at hN
      have hm1 : 0 ≤ max 0 (min pp 64) := by omega
      have hm2 : max 0 (min pp 64) ≤ 64 := by omega
      have hA2 : ∀ (H : Heap), asM2 b (k * 64) 64 1 (max 0 (min pp 64)) H (some (.row true 64 true (flat (D.s.map blkV)))) = some (.ref b (k * 64) (clampP pp) 1, H) := fun H => asM2_row (by rw [blk_len]; omega) (by omega) hm1 hm2
      have hc64 := clampP_le pp
      try simp (maxSteps := 4000000) (disch := first | assumption | omega | (simp only [push_next, put_next, empty_next, List.length_cons, List.length_nil] <;> omega) | exact _root_.id rfl | exact _root_.id (fun _ => rfl) | fail) only [↓pre, post, Int.reduceEq, Int.reduceLT, Int.reduceLE, Int.reduceAdd, Int.reduceSub, Int.reduceMul, Int.reduceNeg, Nat.reduceLT, Nat.reduceSub, Nat.reduceMul, Nat.reduceAdd, Nat.reduceLeDiff, reduceIte, reduceCtorEq, Nat.reduceEqDiff, l2, p1, w1, lookM_some hL, lookM_none hW, zerosV_len, zerosV_one, nextV_len, nextV_one, setZ, blk, Lb, t64, hN, XW_mnxK, mnx_max, mnx_min, hA2, asM_next]
      repeat' (first
        | (refine ifP_pos (by first | assumption | omega) ?_ <;> try simp (maxSteps := 4000000) (disch := first | assumption | omega | (simp only [push_next, put_next, empty_next, List.length_cons, List.length_nil] <;> omega) | exact _root_.id rfl | exact _root_.id (fun _ => rfl) | fail) only [↓pre, post, Int.reduceEq, Int.reduceLT, Int.reduceLE, Int.reduceAdd, Int.reduceSub, Int.reduceMul, Int.reduceNeg, Nat.reduceLT, Nat.reduceSub, Nat.reduceMul, Nat.reduceAdd, Nat.reduceLeDiff, reduceIte, reduceCtorEq, Nat.reduceEqDiff, l2, p1, w1, lookM_some hL, lookM_none hW, zerosV_len, zerosV_one, nextV_len, nextV_one, setZ, blk, Lb, t64, hN, XW_mnxK, mnx_max, mnx_min, hA2, asM_next])
        | (refine ifP_neg (by first | assumption | omega) ?_ <;> try simp (maxSteps := 4000000) (disch := first | assumption | omega | (simp only [push_next, put_next, empty_next, List.length_cons, List.length_nil] <;> omega) | exact _root_.id rfl | exact _root_.id (fun _ => rfl) | fail) only [↓pre, post, Int.reduceEq, Int.reduceLT, Int.reduceLE, Int.reduceAdd, Int.reduceSub, Int.reduceMul, Int.reduceNeg, Nat.reduceLT, Nat.reduceSub, Nat.reduceMul, Nat.reduceAdd, Nat.reduceLeDiff, reduceIte, reduceCtorEq, Nat.reduceEqDiff, l2, p1, w1, lookM_some hL, lookM_none hW, zerosV_len, zerosV_one, nextV_len, nextV_one, setZ, blk, Lb, t64, hN, XW_mnxK, mnx_max, mnx_min, hA2, asM_next])
        | (refine ifP_intro (fun hyp => ?_) (fun hyp => ?_) <;> first | simp (maxSteps := 4000000) (disch := first | assumption | omega | (simp only [push_next, put_next, empty_next, List.length_cons, List.length_nil] <;> omega) | exact _root_.id rfl | exact _root_.id (fun _ => rfl) | fail) only [↓pre, post, Int.reduceEq, Int.reduceLT, Int.reduceLE, Int.reduceAdd, Int.reduceSub, Int.reduceMul, Int.reduceNeg, Nat.reduceLT, Nat.reduceSub, Nat.reduceMul, Nat.reduceAdd, Nat.reduceLeDiff, reduceIte, reduceCtorEq, Nat.reduceEqDiff, l2, p1, w1, lookM_some hL, lookM_none hW, zerosV_len, zerosV_one, nextV_len, nextV_one, setZ, blk, Lb, t64, hN, XW_mnxK, mnx_max, mnx_min, hA2, asM_next, eq_false hyp] | simp (maxSteps := 4000000) (disch := first | assumption | omega | (simp only [push_next, put_next, empty_next, List.length_cons, List.length_nil] <;> omega) | exact _root_.id rfl | exact _root_.id (fun _ => rfl) | fail) only [↓pre, post, Int.reduceEq, Int.reduceLT, Int.reduceLE, Int.reduceAdd, Int.reduceSub, Int.reduceMul, Int.reduceNeg, Nat.reduceLT, Nat.reduceSub, Nat.reduceMul, Nat.reduceAdd, Nat.reduceLeDiff, reduceIte, reduceCtorEq, Nat.reduceEqDiff, l2, p1, w1, lookM_some hL, lookM_none hW, zerosV_len, zerosV_one, nextV_len, nextV_one, setZ, blk, Lb, t64, hN, XW_mnxK, mnx_max, mnx_min, hA2, asM_next, eq_true hyp] | skip))
      have hbl : flat (D.s.map blkV) = flat (D.s.map blkV) := rfl
      rw [copyA_rows (h := (h.put p (some (.map (.int .i64) c (mdelE (.int .i64) (.int .i64 (k : Int)) es)))).push (.row true (typed 74) true (nextV v).cells)) (cs := flat (D.s.map blkV)) (xs := (nextV v).cells) (by rw [get_push_ne (by simp only [put_next]; omega), get_put_ne (by assumption)]; exact blk)
        (get_push_eq (by rw [put_next])) (nextV_len v) (by rw [blk_len]; omega) hc64 (nextV_one v), set_blk D.s hk (settle (nth D.s k) pp) v hc64 hst]
      try simp (maxSteps := 4000000) (disch := first | assumption | omega | (simp only [push_next, put_next, empty_next, List.length_cons, List.length_nil] <;> omega) | exact _root_.id rfl | exact _root_.id (fun _ => rfl) | fail) only [↓pre, post, Int.reduceEq, Int.reduceLT, Int.reduceLE, Int.reduceAdd, Int.reduceSub, Int.reduceMul, Int.reduceNeg, Nat.reduceLT, Nat.reduceSub, Nat.reduceMul, Nat.reduceAdd, Nat.reduceLeDiff, reduceIte, reduceCtorEq, Nat.reduceEqDiff]
      repeat' (first
        | (refine ifP_pos (by first | assumption | omega) ?_ <;> try simp (maxSteps := 4000000) (disch := first | assumption | omega | (simp only [push_next, put_next, empty_next, List.length_cons, List.length_nil] <;> omega) | exact _root_.id rfl | exact _root_.id (fun _ => rfl) | fail) only [↓pre, post, Int.reduceEq, Int.reduceLT, Int.reduceLE, Int.reduceAdd, Int.reduceSub, Int.reduceMul, Int.reduceNeg, Nat.reduceLT, Nat.reduceSub, Nat.reduceMul, Nat.reduceAdd, Nat.reduceLeDiff, reduceIte, reduceCtorEq, Nat.reduceEqDiff])
        | (refine ifP_neg (by first | assumption | omega) ?_ <;> try simp (maxSteps := 4000000) (disch := first | assumption | omega | (simp only [push_next, put_next, empty_next, List.length_cons, List.length_nil] <;> omega) | exact _root_.id rfl | exact _root_.id (fun _ => rfl) | fail) only [↓pre, post, Int.reduceEq, Int.reduceLT, Int.reduceLE, Int.reduceAdd, Int.reduceSub, Int.reduceMul, Int.reduceNeg, Nat.reduceLT, Nat.reduceSub, Nat.reduceMul, Nat.reduceAdd, Nat.reduceLeDiff, reduceIte, reduceCtorEq, Nat.reduceEqDiff])
        | (refine ifP_intro (fun hyp => ?_) (fun hyp => ?_) <;> first | simp (maxSteps := 4000000) (disch := first | assumption | omega | (simp only [push_next, put_next, empty_next, List.length_cons, List.length_nil] <;> omega) | exact _root_.id rfl | exact _root_.id (fun _ => rfl) | fail) only [↓pre, post, Int.reduceEq, Int.reduceLT, Int.reduceLE, Int.reduceAdd, Int.reduceSub, Int.reduceMul, Int.reduceNeg, Nat.reduceLT, Nat.reduceSub, Nat.reduceMul, Nat.reduceAdd, Nat.reduceLeDiff, reduceIte, reduceCtorEq, Nat.reduceEqDiff, eq_false hyp] | simp (maxSteps := 4000000) (disch := first | assumption | omega | (simp only [push_next, put_next, empty_next, List.length_cons, List.length_nil] <;> omega) | exact _root_.id rfl | exact _root_.id (fun _ => rfl) | fail) only [↓pre, post, Int.reduceEq, Int.reduceLT, Int.reduceLE, Int.reduceAdd, Int.reduceSub, Int.reduceMul, Int.reduceNeg, Nat.reduceLT, Nat.reduceSub, Nat.reduceMul, Nat.reduceAdd, Nat.reduceLeDiff, reduceIte, reduceCtorEq, Nat.reduceEqDiff, eq_true hyp] | skip))
      refine hG _ (fun i hi hi' => by rw [get_push_ne (by simp only [put_next]; omega), get_put_ne hi]) (by simp only [push_next, put_next]; omega) ?_
      rw [get_push_ne (by simp only [put_next]; omega)]
      exact get_put_old (o1 := .row true 64 true (flat (D.s.map blkV))) (by rw [get_put_ne (by assumption)]; exact blk)

theorem wear_c (P : PD h d b p w D) (i : Int) : CV F 20 [.ptr d 0, .int .i64 i] h (fun v h' => v = .int .i64 (D.wear i).1 ∧ PD h' d b p w (D.wear i).2 ∧ Fr (PS d b p w) h h') := by
  have P0 := P
  obtain ⟨ok, ⟨lv, l1, l2⟩, blk, ⟨c, es, p1, p2⟩, ⟨c', es', w1, w2⟩, n1, n2, n3, n4, n5, n6⟩ := P
  have hlen := ok.len
  refine CV_wp (fn := c20) rfl ?_
  dsimp only [c20]
  by_cases hi : i < 0 ∨ (D.s.length : Int) ≤ i
  · rw [show D.wear i = (1, D) from if_pos hi]
    try simp (maxSteps := 4000000) (disch := first | assumption | omega | (simp only [push_next, put_next, empty_next, List.length_cons, List.length_nil] <;> omega) | exact _root_.id rfl | exact _root_.id (fun _ => rfl) | fail) only [↓pre, post, Int.reduceEq, Int.reduceLT, Int.reduceLE, Int.reduceAdd, Int.reduceSub, Int.reduceMul, Int.reduceNeg, Nat.reduceLT, Nat.reduceSub, Nat.reduceMul, Nat.reduceAdd, Nat.reduceLeDiff, reduceIte, reduceCtorEq, Nat.reduceEqDiff, l2]
    repeat' (first
      | (refine ifP_pos (by first | assumption | omega) ?_ <;> try simp (maxSteps := 4000000) (disch := first | assumption | omega | (simp only [push_next, put_next, empty_next, List.length_cons, List.length_nil] <;> omega) | exact _root_.id rfl | exact _root_.id (fun _ => rfl) | fail) only [↓pre, post, Int.reduceEq, Int.reduceLT, Int.reduceLE, Int.reduceAdd, Int.reduceSub, Int.reduceMul, Int.reduceNeg, Nat.reduceLT, Nat.reduceSub, Nat.reduceMul, Nat.reduceAdd, Nat.reduceLeDiff, reduceIte, reduceCtorEq, Nat.reduceEqDiff, l2])
      | (refine ifP_neg (by first | assumption | omega) ?_ <;> try simp (maxSteps := 4000000) (disch := first | assumption | omega | (simp only [push_next, put_next, empty_next, List.length_cons, List.length_nil] <;> omega) | exact _root_.id rfl | exact _root_.id (fun _ => rfl) | fail) only [↓pre, post, Int.reduceEq, Int.reduceLT, Int.reduceLE, Int.reduceAdd, Int.reduceSub, Int.reduceMul, Int.reduceNeg, Nat.reduceLT, Nat.reduceSub, Nat.reduceMul, Nat.reduceAdd, Nat.reduceLeDiff, reduceIte, reduceCtorEq, Nat.reduceEqDiff, l2])
      | (refine ifP_intro (fun hyp => ?_) (fun hyp => ?_) <;> first | simp (maxSteps := 4000000) (disch := first | assumption | omega | (simp only [push_next, put_next, empty_next, List.length_cons, List.length_nil] <;> omega) | exact _root_.id rfl | exact _root_.id (fun _ => rfl) | fail) only [↓pre, post, Int.reduceEq, Int.reduceLT, Int.reduceLE, Int.reduceAdd, Int.reduceSub, Int.reduceMul, Int.reduceNeg, Nat.reduceLT, Nat.reduceSub, Nat.reduceMul, Nat.reduceAdd, Nat.reduceLeDiff, reduceIte, reduceCtorEq, Nat.reduceEqDiff, l2, eq_false hyp] | simp (maxSteps := 4000000) (disch := first | assumption | omega | (simp only [push_next, put_next, empty_next, List.length_cons, List.length_nil] <;> omega) | exact _root_.id rfl | exact _root_.id (fun _ => rfl) | fail) only [↓pre, post, Int.reduceEq, Int.reduceLT, Int.reduceLE, Int.reduceAdd, Int.reduceSub, Int.reduceMul, Int.reduceNeg, Nat.reduceLT, Nat.reduceSub, Nat.reduceMul, Nat.reduceAdd, Nat.reduceLeDiff, reduceIte, reduceCtorEq, Nat.reduceEqDiff, l2, eq_true hyp] | skip))
    · exact ⟨P0, Fr.refl _ _⟩
    · exact ⟨P0, Fr.refl _ _⟩
  · obtain ⟨k, rfl⟩ : ∃ k : Nat, i = (k : Int) := ⟨i.toNat, by omega⟩
    have hk : k < D.s.length := by omega
    rw [show D.wear (k : Int) = (0, { D with s := D.s.set k { nth D.s k with worn := true } }) by unfold Dsk.wear; rw [if_neg hi]; simp]
    try simp (maxSteps := 4000000) (disch := first | assumption | omega | (simp only [push_next, put_next, empty_next, List.length_cons, List.length_nil] <;> omega) | exact _root_.id rfl | exact _root_.id (fun _ => rfl) | fail) only [↓pre, post, Int.reduceEq, Int.reduceLT, Int.reduceLE, Int.reduceAdd, Int.reduceSub, Int.reduceMul, Int.reduceNeg, Nat.reduceLT, Nat.reduceSub, Nat.reduceMul, Nat.reduceAdd, Nat.reduceLeDiff, reduceIte, reduceCtorEq, Nat.reduceEqDiff, l2, w1, putM_map (kd := .int .i64) (v := AVal.bool true) (by rfl)]
    repeat' (first
      | (refine ifP_pos (by first | assumption | omega) ?_ <;> try simp (maxSteps := 4000000) (disch := first | assumption | omega | (simp only [push_next, put_next, empty_next, List.length_cons, List.length_nil] <;> omega) | exact _root_.id rfl | exact _root_.id (fun _ => rfl) | fail) only [↓pre, post, Int.reduceEq, Int.reduceLT, Int.reduceLE, Int.reduceAdd, Int.reduceSub, Int.reduceMul, Int.reduceNeg, Nat.reduceLT, Nat.reduceSub, Nat.reduceMul, Nat.reduceAdd, Nat.reduceLeDiff, reduceIte, reduceCtorEq, Nat.reduceEqDiff, l2, w1, putM_map (kd := .int .i64) (v := AVal.bool true) (by rfl)])
      | (refine ifP_neg (by first | assumption | omega) ?_ <;> try simp (maxSteps := 4000000) (disch := first | assumption | omega | (simp only [push_next, put_next, empty_next, List.length_cons, List.length_nil] <;> omega) | exact _root_.id rfl | exact _root_.id (fun _ => rfl) | fail) only [↓pre, post, Int.reduceEq, Int.reduceLT, Int.reduceLE, Int.reduceAdd, Int.reduceSub, Int.reduceMul, Int.reduceNeg, Nat.reduceLT, Nat.reduceSub, Nat.reduceMul, Nat.reduceAdd, Nat.reduceLeDiff, reduceIte, reduceCtorEq, Nat.reduceEqDiff, l2, w1, putM_map (kd := .int .i64) (v := AVal.bool true) (by rfl)])
      | (refine ifP_intro (fun hyp => ?_) (fun hyp => ?_) <;> first | simp (maxSteps := 4000000) (disch := first | assumption | omega | (simp only [push_next, put_next, empty_next, List.length_cons, List.length_nil] <;> omega) | exact _root_.id rfl | exact _root_.id (fun _ => rfl) | fail) only [↓pre, post, Int.reduceEq, Int.reduceLT, Int.reduceLE, Int.reduceAdd, Int.reduceSub, Int.reduceMul, Int.reduceNeg, Nat.reduceLT, Nat.reduceSub, Nat.reduceMul, Nat.reduceAdd, Nat.reduceLeDiff, reduceIte, reduceCtorEq, Nat.reduceEqDiff, l2, w1, putM_map (kd := .int .i64) (v := AVal.bool true) (by rfl), eq_false hyp] | simp (maxSteps := 4000000) (disch := first | assumption | omega | (simp only [push_next, put_next, empty_next, List.length_cons, List.length_nil] <;> omega) | exact _root_.id rfl | exact _root_.id (fun _ => rfl) | fail) only [↓pre, post, Int.reduceEq, Int.reduceLT, Int.reduceLE, Int.reduceAdd, Int.reduceSub, Int.reduceMul, Int.reduceNeg, Nat.reduceLT, Nat.reduceSub, Nat.reduceMul, Nat.reduceAdd, Nat.reduceLeDiff, reduceIte, reduceCtorEq, Nat.reduceEqDiff, l2, w1, putM_map (kd := .int .i64) (v := AVal.bool true) (by rfl), eq_true hyp] | skip))
    refine ⟨P0.turn hk { nth D.s k with worn := true } (get_put_ne (by assumption)) ?_ ⟨c, es, by rw [get_put_ne (by assumption)]; exact p1, ?_⟩ ⟨_, _, get_put_old w1, w2.put hk (.bool true) c'⟩, Fr.put (Fr.refl _ _) (.inl (.inr (.inr (.inr rfl)))) _⟩
    · rw [get_put_ne (by assumption), blk]
      congr 3
      apply List.ext_getElem?
      intro i
      simp only [List.getElem?_map, List.getElem?_set]
      by_cases hik : k = i
      · subst hik
        simp [hk, blkV, nth, List.getD_eq_getElem?_getD]
      · simp [hik]
    · rw [upd_same (pendF_at hk)]; exact p2
end Go.Proofs.Ytjofjgflcogklaa

/-
  Rot of the program's disk; arithmetic of bits.
-/
set_option linter.unusedSimpArgs false
set_option linter.unusedVariables false
set_option maxHeartbeats 4000000
namespace Go.Abs
variable {F : Nat → Option AEnt} {ev : Opd → AVal} {h : Heap} {K : AVal → Heap → Prop}
/-- An element of an array in place. -/
def aaddrV (len sz : Nat) (x i : AVal) : Option AVal := match x, i with
  | .ptr id off, .int _ n => if 0 ≤ n ∧ n < len then some (.ptr id (off + n.toNat * sz)) else none
  | .rp cs, .int _ n => if 0 ≤ n ∧ n < len then some (.rp (cs.drop (n.toNat * sz))) else none
  | _, _ => none
theorem XW_aaddrK {len sz : Nat} {x i : Opd} : XW F (.aaddr len sz x i) ev h K ↔ bindK (aaddrV len sz (ev x) (ev i)) K h := by
  refine XW_val (fun _ => rfl) ?_
  simp only [evalA, aaddrV]
  cases ev x <;> cases ev i <;> first | rfl | skip
  · rename_i id off k n
    by_cases hc : 0 ≤ n ∧ n < (len : Int)
    · simp only [hc, and_self, if_true, Option.map_some]
    · simp only [hc, if_false, Option.map_none]
  · rename_i cs k n
    by_cases hc : 0 ≤ n ∧ n < (len : Int)
    · simp only [hc, and_self, if_true, Option.map_some]
    · simp only [hc, if_false, Option.map_none]
theorem aaddr_ptr (len sz id off : Nat) (k : IntKind) (n : Int) (h0 : 0 ≤ n) (h1 : n < len) : aaddrV len sz (.ptr id off) (.int k n) = some (.ptr id (off + n.toNat * sz)) := by
  simp only [aaddrV, h0, h1, and_self, if_true]
end Go.Abs
namespace Go.Proofs.Ytjofjgflcogklaa
open Go Go.Abs
variable {h : Heap} {d b p w r s : Nat} {D : Dsk}

def isInt (o : Option AVal) (k : IntKind) (n : Int) : Bool := match o with
  | some (.int k' m) => decide (k' = k) && decide (m = n)
  | _ => false
theorem isInt_eq {o : Option AVal} {k : IntKind} {n : Int} (h : isInt o k n = true) : o = some (.int k n) := by
  unfold isInt at h
  split at h
  · simp at h; obtain ⟨rfl, rfl⟩ := h; rfl
  · simp at h

theorem all_lt {n : Nat} {p : Nat → Bool} (h : (List.range n).all p = true) {i : Nat} (hi : i < n) : p i = true := List.all_eq_true.1 h i (List.mem_range.2 hi)

theorem bin_quo8 (n : Nat) (hn : n < 512) : binA .quo .arith (.int .i64 (n : Int)) (.int .i64 8) = some (.int .i64 ((n / 8 : Nat) : Int)) :=
  isInt_eq (all_lt (n := 512) (p := fun n => isInt (binA .quo .arith (.int .i64 (n : Int)) (.int .i64 8)) .i64 ((n / 8 : Nat) : Int)) (by kernel_rfl) hn)
theorem bin_rem8 (n : Nat) (hn : n < 512) : binA .rem .arith (.int .i64 (n : Int)) (.int .i64 8) = some (.int .i64 ((n % 8 : Nat) : Int)) :=
  isInt_eq (all_lt (n := 512) (p := fun n => isInt (binA .rem .arith (.int .i64 (n : Int)) (.int .i64 8)) .i64 ((n % 8 : Nat) : Int)) (by kernel_rfl) hn)
theorem bin_shl1 (n : Nat) (hn : n < 8) : binA .shl .arith (.int .u8 1) (.int .i64 (n : Int)) = some (.int .u8 ((2 ^ n : Nat) : Int)) :=
  isInt_eq (all_lt (n := 8) (p := fun n => isInt (binA .shl .arith (.int .u8 1) (.int .i64 (n : Int))) .u8 ((2 ^ n : Nat) : Int)) (by kernel_rfl) hn)
theorem bin_flip (a : UInt8) (n : Nat) (hn : n < 8) : binA .xor .arith (byteV a) (.int .u8 ((2 ^ n : Nat) : Int)) = some (byteV (flipB a n)) := by
  have key := all_lt (n := 256) (p := fun a => (List.range 8).all fun n => isInt (binA .xor .arith (.int .u8 (a : Int)) (.int .u8 ((2 ^ n : Nat) : Int))) .u8 (((UInt8.ofNat (a ^^^ (1 <<< n))).toNat : Nat) : Int)) (by kernel_rfl) a.toNat_lt
  exact isInt_eq (all_lt key hn)

theorem nth_map {α β : Type} [Inhabited α] [Inhabited β] (f : α → β) (l : List α) {i : Nat} (hi : i < l.length) : nth (l.map f) i = f (nth l i) := by
  simp [nth, List.getD_eq_getElem?_getD, hi]
theorem drop_take1 (l : List AVal) {i : Nat} (hi : i < l.length) : (l.drop i).take 1 = [nth l i] := by
  rw [List.take_one, List.head?_drop, List.getElem?_eq_getElem hi]
  simp [nth, List.getD_eq_getElem?_getD, hi]

theorem rot_c (P : PD h d b p w D) (i bit : Int) : CV F 19 [.ptr d 0, .int .i64 i, .int .i64 bit] h (fun v h' => v = .int .i64 (D.rot i bit).1 ∧ PD h' d b p w (D.rot i bit).2 ∧ Fr (PS d b p w) h h') := by
  have P0 := P
  obtain ⟨ok, ⟨lv, l1, l2⟩, blk, ⟨c, es, p1, p2⟩, ⟨c', es', w1, w2⟩, n1, n2, n3, n4, n5, n6⟩ := P
  have hlen := ok.len
  refine CV_wp (fn := c19) rfl ?_
  dsimp only [c19]
  by_cases hi : i < 0 ∨ (D.s.length : Int) ≤ i ∨ bit < 0 ∨ 512 ≤ bit
  · rw [show D.rot i bit = (1, D) from if_pos hi]
    try simp (maxSteps := 4000000) (disch := first | assumption | omega | (simp only [push_next, put_next, empty_next, List.length_cons, List.length_nil] <;> omega) | exact _root_.id rfl | exact _root_.id (fun _ => rfl) | fail) only [↓pre, post, Int.reduceEq, Int.reduceLT, Int.reduceLE, Int.reduceAdd, Int.reduceSub, Int.reduceMul, Int.reduceNeg, Nat.reduceLT, Nat.reduceSub, Nat.reduceMul, Nat.reduceAdd, Nat.reduceLeDiff, reduceIte, reduceCtorEq, Nat.reduceEqDiff, l2]
    repeat' (first
      | (refine ifP_pos (by first | assumption | omega) ?_ <;> try simp (maxSteps := 4000000) (disch := first | assumption | omega | (simp only [push_next, put_next, empty_next, List.length_cons, List.length_nil] <;> omega) | exact _root_.id rfl | exact _root_.id (fun _ => rfl) | fail) only [↓pre, post, Int.reduceEq, Int.reduceLT, Int.reduceLE, Int.reduceAdd, Int.reduceSub, Int.reduceMul, Int.reduceNeg, Nat.reduceLT, Nat.reduceSub, Nat.reduceMul, Nat.reduceAdd, Nat.reduceLeDiff, reduceIte, reduceCtorEq, Nat.reduceEqDiff, l2])
      | (refine ifP_neg (by first | assumption | omega) ?_ <;> try simp (maxSteps := 4000000) (disch := first | assumption | omega | (simp only [push_next, put_next, empty_next, List.length_cons, List.length_nil] <;> omega) | exact _root_.id rfl | exact _root_.id (fun _ => rfl) | fail) only [↓pre, post, Int.reduceEq, Int.reduceLT, Int.reduceLE, Int.reduceAdd, Int.reduceSub, Int.reduceMul, Int.reduceNeg, Nat.reduceLT, Nat.reduceSub, Nat.reduceMul, Nat.reduceAdd, Nat.reduceLeDiff, reduceIte, reduceCtorEq, Nat.reduceEqDiff, l2])
      | (refine ifP_intro (fun hyp => ?_) (fun hyp => ?_) <;> first | simp (maxSteps := 4000000) (disch := first | assumption | omega | (simp only [push_next, put_next, empty_next, List.length_cons, List.length_nil] <;> omega) | exact _root_.id rfl | exact _root_.id (fun _ => rfl) | fail) only [↓pre, post, Int.reduceEq, Int.reduceLT, Int.reduceLE, Int.reduceAdd, Int.reduceSub, Int.reduceMul, Int.reduceNeg, Nat.reduceLT, Nat.reduceSub, Nat.reduceMul, Nat.reduceAdd, Nat.reduceLeDiff, reduceIte, reduceCtorEq, Nat.reduceEqDiff, l2, eq_false hyp] | simp (maxSteps := 4000000) (disch := first | assumption | omega | (simp only [push_next, put_next, empty_next, List.length_cons, List.length_nil] <;> omega) | exact _root_.id rfl | exact _root_.id (fun _ => rfl) | fail) only [↓pre, post, Int.reduceEq, Int.reduceLT, Int.reduceLE, Int.reduceAdd, Int.reduceSub, Int.reduceMul, Int.reduceNeg, Nat.reduceLT, Nat.reduceSub, Nat.reduceMul, Nat.reduceAdd, Nat.reduceLeDiff, reduceIte, reduceCtorEq, Nat.reduceEqDiff, l2, eq_true hyp] | skip))
    all_goals exact ⟨P0, Fr.refl _ _⟩
  · obtain ⟨k, rfl⟩ : ∃ k : Nat, i = (k : Int) := ⟨i.toNat, by omega⟩
    obtain ⟨t, rfl⟩ : ∃ t : Nat, bit = (t : Int) := ⟨bit.toNat, by omega⟩
    have hk : k < D.s.length := by omega
    have ht : t < 512 := by omega
    have hb := P0.lt b (.inr (.inl rfl))
    rw [show D.rot (k : Int) (t : Int) = (0, { D with s := D.s.set k { nth D.s k with text := flipT (nth D.s k).text t } }) by unfold Dsk.rot; rw [if_neg hi]; simp]
    have hx64 := (nth D.s k).text.2
    have hbl : (blkV (nth D.s k)).cells = (nth D.s k).text.1.map byteV := rfl
    have hnb : nth ((nth D.s k).text.1.map byteV) (t / 8) = byteV (nth (nth D.s k).text.1 (t / 8)) := nth_map _ _ (by omega)
    have Lb : ∀ (mu : Bool) (s : Nat) (a : Bool), loadG 1 false (k * 64 + t / 8) (some (.row mu s a (flat (D.s.map blkV)))) = some (byteV (nth (nth D.s k).text.1 (t / 8))) := fun mu s a => by
      rw [loadG_flat (f := blkV) (sz := 64) blkV_len D.s false mu s a hk (by omega), hbl, drop_take1 _ (by rw [List.length_map]; omega), hnb]; rfl
    have Sb : ∀ (H : Heap) (s : Nat) (a : Bool), storeG 1 b (k * 64 + t / 8) (byteV (flipB (nth (nth D.s k).text.1 (t / 8)) (t % 8))) H (some (.row true s a (flat (D.s.map blkV)))) = some (H.put b (some (.row true s a (flat ((D.s.set k { nth D.s k with text := flipT (nth D.s k).text t }).map blkV))))) := fun H s a => by
      refine storeG_flat (f := blkV) (sz := 64) blkV_len D.s s a _ hk rfl (by omega) rfl ?_
      show ((nth D.s k).text.1.set (t / 8) _).map byteV = ((nth D.s k).text.1.map byteV).set (t / 8) _
      rw [List.map_set]
    have q1 := bin_quo8 t ht
    have q2 := bin_rem8 t ht
    have q3 := bin_shl1 (t % 8) (by omega)
    have q4 := bin_flip (nth (nth D.s k).text.1 (t / 8)) (t % 8) (by omega)
    try simp (maxSteps := 4000000) (disch := first | assumption | omega | (simp only [push_next, put_next, empty_next, List.length_cons, List.length_nil] <;> omega) | exact _root_.id rfl | exact _root_.id (fun _ => rfl) | fail) only [↓pre, post, Int.reduceEq, Int.reduceLT, Int.reduceLE, Int.reduceAdd, Int.reduceSub, Int.reduceMul, Int.reduceNeg, Nat.reduceLT, Nat.reduceSub, Nat.reduceMul, Nat.reduceAdd, Nat.reduceLeDiff, reduceIte, reduceCtorEq, Nat.reduceEqDiff, l2, blk, q1, q2, q3, q4, XW_aaddrK, aaddr_ptr, Nat.mul_one, Lb, Sb]
    repeat' (first
      | (refine ifP_pos (by first | assumption | omega) ?_ <;> try simp (maxSteps := 4000000) (disch := first | assumption | omega | (simp only [push_next, put_next, empty_next, List.length_cons, List.length_nil] <;> omega) | exact _root_.id rfl | exact _root_.id (fun _ => rfl) | fail) only [↓pre, post, Int.reduceEq, Int.reduceLT, Int.reduceLE, Int.reduceAdd, Int.reduceSub, Int.reduceMul, Int.reduceNeg, Nat.reduceLT, Nat.reduceSub, Nat.reduceMul, Nat.reduceAdd, Nat.reduceLeDiff, reduceIte, reduceCtorEq, Nat.reduceEqDiff, l2, blk, q1, q2, q3, q4, XW_aaddrK, aaddr_ptr, Nat.mul_one, Lb, Sb])
      | (refine ifP_neg (by first | assumption | omega) ?_ <;> try simp (maxSteps := 4000000) (disch := first | assumption | omega | (simp only [push_next, put_next, empty_next, List.length_cons, List.length_nil] <;> omega) | exact _root_.id rfl | exact _root_.id (fun _ => rfl) | fail) only [↓pre, post, Int.reduceEq, Int.reduceLT, Int.reduceLE, Int.reduceAdd, Int.reduceSub, Int.reduceMul, Int.reduceNeg, Nat.reduceLT, Nat.reduceSub, Nat.reduceMul, Nat.reduceAdd, Nat.reduceLeDiff, reduceIte, reduceCtorEq, Nat.reduceEqDiff, l2, blk, q1, q2, q3, q4, XW_aaddrK, aaddr_ptr, Nat.mul_one, Lb, Sb])
      | (refine ifP_intro (fun hyp => ?_) (fun hyp => ?_) <;> first | simp (maxSteps := 4000000) (disch := first | assumption | omega | (simp only [push_next, put_next, empty_next, List.length_cons, List.length_nil] <;> omega) | exact _root_.id rfl | exact _root_.id (fun _ => rfl) | fail) only [↓pre, post, Int.reduceEq, Int.reduceLT, Int.reduceLE, Int.reduceAdd, Int.reduceSub, Int.reduceMul, Int.reduceNeg, Nat.reduceLT, Nat.reduceSub, Nat.reduceMul, Nat.reduceAdd, Nat.reduceLeDiff, reduceIte, reduceCtorEq, Nat.reduceEqDiff, l2, blk, q1, q2, q3, q4, XW_aaddrK, aaddr_ptr, Nat.mul_one, Lb, Sb, eq_false hyp] | simp (maxSteps := 4000000) (disch := first | assumption | omega | (simp only [push_next, put_next, empty_next, List.length_cons, List.length_nil] <;> omega) | exact _root_.id rfl | exact _root_.id (fun _ => rfl) | fail) only [↓pre, post, Int.reduceEq, Int.reduceLT, Int.reduceLE, Int.reduceAdd, Int.reduceSub, Int.reduceMul, Int.reduceNeg, Nat.reduceLT, Nat.reduceSub, Nat.reduceMul, Nat.reduceAdd, Nat.reduceLeDiff, reduceIte, reduceCtorEq, Nat.reduceEqDiff, l2, blk, q1, q2, q3, q4, XW_aaddrK, aaddr_ptr, Nat.mul_one, Lb, Sb, eq_true hyp] | skip))
    refine ⟨P0.turn hk _ (get_put_ne (by assumption)) (get_put_old blk) ⟨c, es, by rw [get_put_ne (Ne.symm n4)]; exact p1, ?_⟩ ⟨c', es', by rw [get_put_ne (Ne.symm n5)]; exact w1, ?_⟩, Fr.put (Fr.refl _ _) (.inl (.inr (.inl rfl))) _⟩
    · rw [upd_same (pendF_at hk)]; exact p2
    · rw [upd_same (wornF_at hk)]; exact w2
end Go.Proofs.Ytjofjgflcogklaa

/-
  Pending, Worn, Flush and Mount of the program's disk.
-/
set_option linter.unusedSimpArgs false
set_option linter.unusedVariables false
set_option maxHeartbeats 4000000
namespace Go.Proofs.Ytjofjgflcogklaa
open Go Go.Abs
variable {h : Heap} {d b p w r s : Nat} {D : Dsk}

/-- A hand function is called. -/
theorem CV_hand {g : Nat} {s : List AVal → Heap → Option (AVal × Heap)} (hf : F g = some (.hand s)) {args : List AVal} {h h' : Heap} {r : AVal} (e : s args h = some (r, h')) {K : AVal → Heap → Prop} (k : K r h') : CV F g args h K := by
  refine ⟨r, h', ?_, k⟩
  unfold Gives
  exact ⟨1, by simp [run, hf, e]⟩

def dirty (l : List Sec) : List Nat := (List.range l.length).filter fun i => (nth l i).next.isSome
def wornL (l : List Sec) : List Nat := (List.range l.length).filter fun i => (nth l i).worn
def zslN (l : List Nat) : AVal := zsl (l.map fun i : Nat => (i : Int))

theorem keys_c {id : Nat} {c : Nat} {es : List (Nat × AVal × AVal)} {n : Nat} {f : Nat → Option AVal} (hm : h.get id = some (.map (.int .i64) c es)) (hI : MapIs es n f) (hn : n ≤ 4096) {rid g : Nat} {mu ag : Bool} {sz : Nat} (hr : h.get rid = some (.row mu sz ag [.mp id])) (hg : g = 60 ∨ g = 61) :
    CV F 48 [.fn g [.ptr rid 0]] h (fun v h' => v = zslN ((List.range n).filter fun i => (f i).isSome) ∧ h' = h) := by
  obtain ⟨ns, k1, k2, k3⟩ := hI.sorted hn
  refine CV_hand (s := sortedS 60 61) rfl (r := zsl (sortZ ns)) (h' := h) ?_ ⟨by rw [k2]; rfl, rfl⟩
  simp only [sortedS, hg, if_true, hr, hm, k3, k1, Option.map_some]

theorem filter_congr_range {n : Nat} {p q : Nat → Bool} (h : ∀ i, i < n → p i = q i) : (List.range n).filter p = (List.range n).filter q := List.filter_congr fun i hi => h i (List.mem_range.1 hi)

theorem close_c (h : Heap) (p : Nat) : CV F 49 [.mp p] h (fun v h' => v = .fn 60 [.ptr h.next 0] ∧ h' = h.push (.row true 0 false [.mp p])) := by
  refine CV_wp (fn := c49) rfl ?_
  dsimp only [c49]
  try simp (maxSteps := 4000000) (disch := first | assumption | omega | (simp only [push_next, put_next, empty_next, List.length_cons, List.length_nil] <;> omega) | exact _root_.id rfl | exact _root_.id (fun _ => rfl) | fail) only [↓pre, post, Int.reduceEq, Int.reduceLT, Int.reduceLE, Int.reduceAdd, Int.reduceSub, Int.reduceMul, Int.reduceNeg, Nat.reduceLT, Nat.reduceSub, Nat.reduceMul, Nat.reduceAdd, Nat.reduceLeDiff, reduceIte, reduceCtorEq, Nat.reduceEqDiff]
  repeat' (first
    | (refine ifP_pos (by first | assumption | omega) ?_ <;> try simp (maxSteps := 4000000) (disch := first | assumption | omega | (simp only [push_next, put_next, empty_next, List.length_cons, List.length_nil] <;> omega) | exact _root_.id rfl | exact _root_.id (fun _ => rfl) | fail) only [↓pre, post, Int.reduceEq, Int.reduceLT, Int.reduceLE, Int.reduceAdd, Int.reduceSub, Int.reduceMul, Int.reduceNeg, Nat.reduceLT, Nat.reduceSub, Nat.reduceMul, Nat.reduceAdd, Nat.reduceLeDiff, reduceIte, reduceCtorEq, Nat.reduceEqDiff])
    | (refine ifP_neg (by first | assumption | omega) ?_ <;> try simp (maxSteps := 4000000) (disch := first | assumption | omega | (simp only [push_next, put_next, empty_next, List.length_cons, List.length_nil] <;> omega) | exact _root_.id rfl | exact _root_.id (fun _ => rfl) | fail) only [↓pre, post, Int.reduceEq, Int.reduceLT, Int.reduceLE, Int.reduceAdd, Int.reduceSub, Int.reduceMul, Int.reduceNeg, Nat.reduceLT, Nat.reduceSub, Nat.reduceMul, Nat.reduceAdd, Nat.reduceLeDiff, reduceIte, reduceCtorEq, Nat.reduceEqDiff])
    | (refine ifP_intro (fun hyp => ?_) (fun hyp => ?_) <;> first | simp (maxSteps := 4000000) (disch := first | assumption | omega | (simp only [push_next, put_next, empty_next, List.length_cons, List.length_nil] <;> omega) | exact _root_.id rfl | exact _root_.id (fun _ => rfl) | fail) only [↓pre, post, Int.reduceEq, Int.reduceLT, Int.reduceLE, Int.reduceAdd, Int.reduceSub, Int.reduceMul, Int.reduceNeg, Nat.reduceLT, Nat.reduceSub, Nat.reduceMul, Nat.reduceAdd, Nat.reduceLeDiff, reduceIte, reduceCtorEq, Nat.reduceEqDiff, eq_false hyp] | simp (maxSteps := 4000000) (disch := first | assumption | omega | (simp only [push_next, put_next, empty_next, List.length_cons, List.length_nil] <;> omega) | exact _root_.id rfl | exact _root_.id (fun _ => rfl) | fail) only [↓pre, post, Int.reduceEq, Int.reduceLT, Int.reduceLE, Int.reduceAdd, Int.reduceSub, Int.reduceMul, Int.reduceNeg, Nat.reduceLT, Nat.reduceSub, Nat.reduceMul, Nat.reduceAdd, Nat.reduceLeDiff, reduceIte, reduceCtorEq, Nat.reduceEqDiff, eq_true hyp] | skip))
  exact ⟨⟨rfl, rfl⟩, rfl⟩
theorem close2_c (h : Heap) (p : Nat) : CV F 50 [.mp p] h (fun v h' => v = .fn 61 [.ptr h.next 0] ∧ h' = h.push (.row true 0 false [.mp p])) := by
  refine CV_wp (fn := c50) rfl ?_
  dsimp only [c50]
  try simp (maxSteps := 4000000) (disch := first | assumption | omega | (simp only [push_next, put_next, empty_next, List.length_cons, List.length_nil] <;> omega) | exact _root_.id rfl | exact _root_.id (fun _ => rfl) | fail) only [↓pre, post, Int.reduceEq, Int.reduceLT, Int.reduceLE, Int.reduceAdd, Int.reduceSub, Int.reduceMul, Int.reduceNeg, Nat.reduceLT, Nat.reduceSub, Nat.reduceMul, Nat.reduceAdd, Nat.reduceLeDiff, reduceIte, reduceCtorEq, Nat.reduceEqDiff]
  repeat' (first
    | (refine ifP_pos (by first | assumption | omega) ?_ <;> try simp (maxSteps := 4000000) (disch := first | assumption | omega | (simp only [push_next, put_next, empty_next, List.length_cons, List.length_nil] <;> omega) | exact _root_.id rfl | exact _root_.id (fun _ => rfl) | fail) only [↓pre, post, Int.reduceEq, Int.reduceLT, Int.reduceLE, Int.reduceAdd, Int.reduceSub, Int.reduceMul, Int.reduceNeg, Nat.reduceLT, Nat.reduceSub, Nat.reduceMul, Nat.reduceAdd, Nat.reduceLeDiff, reduceIte, reduceCtorEq, Nat.reduceEqDiff])
    | (refine ifP_neg (by first | assumption | omega) ?_ <;> try simp (maxSteps := 4000000) (disch := first | assumption | omega | (simp only [push_next, put_next, empty_next, List.length_cons, List.length_nil] <;> omega) | exact _root_.id rfl | exact _root_.id (fun _ => rfl) | fail) only [↓pre, post, Int.reduceEq, Int.reduceLT, Int.reduceLE, Int.reduceAdd, Int.reduceSub, Int.reduceMul, Int.reduceNeg, Nat.reduceLT, Nat.reduceSub, Nat.reduceMul, Nat.reduceAdd, Nat.reduceLeDiff, reduceIte, reduceCtorEq, Nat.reduceEqDiff])
    | (refine ifP_intro (fun hyp => ?_) (fun hyp => ?_) <;> first | simp (maxSteps := 4000000) (disch := first | assumption | omega | (simp only [push_next, put_next, empty_next, List.length_cons, List.length_nil] <;> omega) | exact _root_.id rfl | exact _root_.id (fun _ => rfl) | fail) only [↓pre, post, Int.reduceEq, Int.reduceLT, Int.reduceLE, Int.reduceAdd, Int.reduceSub, Int.reduceMul, Int.reduceNeg, Nat.reduceLT, Nat.reduceSub, Nat.reduceMul, Nat.reduceAdd, Nat.reduceLeDiff, reduceIte, reduceCtorEq, Nat.reduceEqDiff, eq_false hyp] | simp (maxSteps := 4000000) (disch := first | assumption | omega | (simp only [push_next, put_next, empty_next, List.length_cons, List.length_nil] <;> omega) | exact _root_.id rfl | exact _root_.id (fun _ => rfl) | fail) only [↓pre, post, Int.reduceEq, Int.reduceLT, Int.reduceLE, Int.reduceAdd, Int.reduceSub, Int.reduceMul, Int.reduceNeg, Nat.reduceLT, Nat.reduceSub, Nat.reduceMul, Nat.reduceAdd, Nat.reduceLeDiff, reduceIte, reduceCtorEq, Nat.reduceEqDiff, eq_true hyp] | skip))
  exact ⟨⟨rfl, rfl⟩, rfl⟩

theorem pending_c (P : PD h d b p w D) : CV F 22 [.ptr d 0] h (fun v h' => v = zslN (dirty D.s) ∧ Fr (fun _ => False) h h') := by
  have P0 := P
  obtain ⟨ok, ⟨lv, l1, l2⟩, blk, ⟨c, es, p1, p2⟩, ⟨c', es', w1, w2⟩, n1, n2, n3, n4, n5, n6⟩ := P
  have hp := P0.lt p (.inr (.inr (.inl rfl)))
  have hfin : (List.range D.s.length).filter (fun i => (pendF D.s i).isSome) = dirty D.s := filter_congr_range fun i hi => by rw [pendF_at hi]; simp
  refine CV_wp (fn := c22) rfl ?_
  dsimp only [c22]
  try simp (maxSteps := 4000000) (disch := first | assumption | omega | (simp only [push_next, put_next, empty_next, List.length_cons, List.length_nil] <;> omega) | exact _root_.id rfl | exact _root_.id (fun _ => rfl) | fail) only [↓pre, post, Int.reduceEq, Int.reduceLT, Int.reduceLE, Int.reduceAdd, Int.reduceSub, Int.reduceMul, Int.reduceNeg, Nat.reduceLT, Nat.reduceSub, Nat.reduceMul, Nat.reduceAdd, Nat.reduceLeDiff, reduceIte, reduceCtorEq, Nat.reduceEqDiff, l2]
  repeat' (first
    | (refine ifP_pos (by first | assumption | omega) ?_ <;> try simp (maxSteps := 4000000) (disch := first | assumption | omega | (simp only [push_next, put_next, empty_next, List.length_cons, List.length_nil] <;> omega) | exact _root_.id rfl | exact _root_.id (fun _ => rfl) | fail) only [↓pre, post, Int.reduceEq, Int.reduceLT, Int.reduceLE, Int.reduceAdd, Int.reduceSub, Int.reduceMul, Int.reduceNeg, Nat.reduceLT, Nat.reduceSub, Nat.reduceMul, Nat.reduceAdd, Nat.reduceLeDiff, reduceIte, reduceCtorEq, Nat.reduceEqDiff, l2])
    | (refine ifP_neg (by first | assumption | omega) ?_ <;> try simp (maxSteps := 4000000) (disch := first | assumption | omega | (simp only [push_next, put_next, empty_next, List.length_cons, List.length_nil] <;> omega) | exact _root_.id rfl | exact _root_.id (fun _ => rfl) | fail) only [↓pre, post, Int.reduceEq, Int.reduceLT, Int.reduceLE, Int.reduceAdd, Int.reduceSub, Int.reduceMul, Int.reduceNeg, Nat.reduceLT, Nat.reduceSub, Nat.reduceMul, Nat.reduceAdd, Nat.reduceLeDiff, reduceIte, reduceCtorEq, Nat.reduceEqDiff, l2])
    | (refine ifP_intro (fun hyp => ?_) (fun hyp => ?_) <;> first | simp (maxSteps := 4000000) (disch := first | assumption | omega | (simp only [push_next, put_next, empty_next, List.length_cons, List.length_nil] <;> omega) | exact _root_.id rfl | exact _root_.id (fun _ => rfl) | fail) only [↓pre, post, Int.reduceEq, Int.reduceLT, Int.reduceLE, Int.reduceAdd, Int.reduceSub, Int.reduceMul, Int.reduceNeg, Nat.reduceLT, Nat.reduceSub, Nat.reduceMul, Nat.reduceAdd, Nat.reduceLeDiff, reduceIte, reduceCtorEq, Nat.reduceEqDiff, l2, eq_false hyp] | simp (maxSteps := 4000000) (disch := first | assumption | omega | (simp only [push_next, put_next, empty_next, List.length_cons, List.length_nil] <;> omega) | exact _root_.id rfl | exact _root_.id (fun _ => rfl) | fail) only [↓pre, post, Int.reduceEq, Int.reduceLT, Int.reduceLE, Int.reduceAdd, Int.reduceSub, Int.reduceMul, Int.reduceNeg, Nat.reduceLT, Nat.reduceSub, Nat.reduceMul, Nat.reduceAdd, Nat.reduceLeDiff, reduceIte, reduceCtorEq, Nat.reduceEqDiff, l2, eq_true hyp] | skip))
  refine CV_mono (close_c h p) ?_
  rintro v h1 ⟨rfl, rfl⟩
  have hk := cv_rw (keys_c (h := h.push (.row true 0 false [.mp p])) (by rw [get_push_ne (by omega)]; exact p1) p2 ok.len (rid := h.next) (get_push_eq rfl) (.inl rfl))
  rw [hfin] at hk
  try simp (maxSteps := 4000000) (disch := first | assumption | omega | (simp only [push_next, put_next, empty_next, List.length_cons, List.length_nil] <;> omega) | exact _root_.id rfl | exact _root_.id (fun _ => rfl) | fail) only [↓pre, post, Int.reduceEq, Int.reduceLT, Int.reduceLE, Int.reduceAdd, Int.reduceSub, Int.reduceMul, Int.reduceNeg, Nat.reduceLT, Nat.reduceSub, Nat.reduceMul, Nat.reduceAdd, Nat.reduceLeDiff, reduceIte, reduceCtorEq, Nat.reduceEqDiff, hk]
  repeat' (first
    | (refine ifP_pos (by first | assumption | omega) ?_ <;> try simp (maxSteps := 4000000) (disch := first | assumption | omega | (simp only [push_next, put_next, empty_next, List.length_cons, List.length_nil] <;> omega) | exact _root_.id rfl | exact _root_.id (fun _ => rfl) | fail) only [↓pre, post, Int.reduceEq, Int.reduceLT, Int.reduceLE, Int.reduceAdd, Int.reduceSub, Int.reduceMul, Int.reduceNeg, Nat.reduceLT, Nat.reduceSub, Nat.reduceMul, Nat.reduceAdd, Nat.reduceLeDiff, reduceIte, reduceCtorEq, Nat.reduceEqDiff, hk])
    | (refine ifP_neg (by first | assumption | omega) ?_ <;> try simp (maxSteps := 4000000) (disch := first | assumption | omega | (simp only [push_next, put_next, empty_next, List.length_cons, List.length_nil] <;> omega) | exact _root_.id rfl | exact _root_.id (fun _ => rfl) | fail) only [↓pre, post, Int.reduceEq, Int.reduceLT, Int.reduceLE, Int.reduceAdd, Int.reduceSub, Int.reduceMul, Int.reduceNeg, Nat.reduceLT, Nat.reduceSub, Nat.reduceMul, Nat.reduceAdd, Nat.reduceLeDiff, reduceIte, reduceCtorEq, Nat.reduceEqDiff, hk])
    | (refine ifP_intro (fun hyp => ?_) (fun hyp => ?_) <;> first | simp (maxSteps := 4000000) (disch := first | assumption | omega | (simp only [push_next, put_next, empty_next, List.length_cons, List.length_nil] <;> omega) | exact _root_.id rfl | exact _root_.id (fun _ => rfl) | fail) only [↓pre, post, Int.reduceEq, Int.reduceLT, Int.reduceLE, Int.reduceAdd, Int.reduceSub, Int.reduceMul, Int.reduceNeg, Nat.reduceLT, Nat.reduceSub, Nat.reduceMul, Nat.reduceAdd, Nat.reduceLeDiff, reduceIte, reduceCtorEq, Nat.reduceEqDiff, hk, eq_false hyp] | simp (maxSteps := 4000000) (disch := first | assumption | omega | (simp only [push_next, put_next, empty_next, List.length_cons, List.length_nil] <;> omega) | exact _root_.id rfl | exact _root_.id (fun _ => rfl) | fail) only [↓pre, post, Int.reduceEq, Int.reduceLT, Int.reduceLE, Int.reduceAdd, Int.reduceSub, Int.reduceMul, Int.reduceNeg, Nat.reduceLT, Nat.reduceSub, Nat.reduceMul, Nat.reduceAdd, Nat.reduceLeDiff, reduceIte, reduceCtorEq, Nat.reduceEqDiff, hk, eq_true hyp] | skip))
  exact (Fr.refl _ _).push _

theorem worn_c (P : PD h d b p w D) : CV F 23 [.ptr d 0] h (fun v h' => v = zslN (wornL D.s) ∧ Fr (fun _ => False) h h') := by
  have P0 := P
  obtain ⟨ok, ⟨lv, l1, l2⟩, blk, ⟨c, es, p1, p2⟩, ⟨c', es', w1, w2⟩, n1, n2, n3, n4, n5, n6⟩ := P
  have hw := P0.lt w (.inr (.inr (.inr rfl)))
  have hfin : (List.range D.s.length).filter (fun i => (wornF D.s i).isSome) = wornL D.s := filter_congr_range fun i hi => by
    rw [wornF_at hi]
    cases (nth D.s i).worn <;> rfl
  refine CV_wp (fn := c23) rfl ?_
  dsimp only [c23]
  try simp (maxSteps := 4000000) (disch := first | assumption | omega | (simp only [push_next, put_next, empty_next, List.length_cons, List.length_nil] <;> omega) | exact _root_.id rfl | exact _root_.id (fun _ => rfl) | fail) only [↓pre, post, Int.reduceEq, Int.reduceLT, Int.reduceLE, Int.reduceAdd, Int.reduceSub, Int.reduceMul, Int.reduceNeg, Nat.reduceLT, Nat.reduceSub, Nat.reduceMul, Nat.reduceAdd, Nat.reduceLeDiff, reduceIte, reduceCtorEq, Nat.reduceEqDiff, l2]
  repeat' (first
    | (refine ifP_pos (by first | assumption | omega) ?_ <;> try simp (maxSteps := 4000000) (disch := first | assumption | omega | (simp only [push_next, put_next, empty_next, List.length_cons, List.length_nil] <;> omega) | exact _root_.id rfl | exact _root_.id (fun _ => rfl) | fail) only [↓pre, post, Int.reduceEq, Int.reduceLT, Int.reduceLE, Int.reduceAdd, Int.reduceSub, Int.reduceMul, Int.reduceNeg, Nat.reduceLT, Nat.reduceSub, Nat.reduceMul, Nat.reduceAdd, Nat.reduceLeDiff, reduceIte, reduceCtorEq, Nat.reduceEqDiff, l2])
    | (refine ifP_neg (by first | assumption | omega) ?_ <;> try simp (maxSteps := 4000000) (disch := first | assumption | omega | (simp only [push_next, put_next, empty_next, List.length_cons, List.length_nil] <;> omega) | exact _root_.id rfl | exact _root_.id (fun _ => rfl) | fail) only [↓pre, post, Int.reduceEq, Int.reduceLT, Int.reduceLE, Int.reduceAdd, Int.reduceSub, Int.reduceMul, Int.reduceNeg, Nat.reduceLT, Nat.reduceSub, Nat.reduceMul, Nat.reduceAdd, Nat.reduceLeDiff, reduceIte, reduceCtorEq, Nat.reduceEqDiff, l2])
    | (refine ifP_intro (fun hyp => ?_) (fun hyp => ?_) <;> first | simp (maxSteps := 4000000) (disch := first | assumption | omega | (simp only [push_next, put_next, empty_next, List.length_cons, List.length_nil] <;> omega) | exact _root_.id rfl | exact _root_.id (fun _ => rfl) | fail) only [↓pre, post, Int.reduceEq, Int.reduceLT, Int.reduceLE, Int.reduceAdd, Int.reduceSub, Int.reduceMul, Int.reduceNeg, Nat.reduceLT, Nat.reduceSub, Nat.reduceMul, Nat.reduceAdd, Nat.reduceLeDiff, reduceIte, reduceCtorEq, Nat.reduceEqDiff, l2, eq_false hyp] | simp (maxSteps := 4000000) (disch := first | assumption | omega | (simp only [push_next, put_next, empty_next, List.length_cons, List.length_nil] <;> omega) | exact _root_.id rfl | exact _root_.id (fun _ => rfl) | fail) only [↓pre, post, Int.reduceEq, Int.reduceLT, Int.reduceLE, Int.reduceAdd, Int.reduceSub, Int.reduceMul, Int.reduceNeg, Nat.reduceLT, Nat.reduceSub, Nat.reduceMul, Nat.reduceAdd, Nat.reduceLeDiff, reduceIte, reduceCtorEq, Nat.reduceEqDiff, l2, eq_true hyp] | skip))
  refine CV_mono (close2_c h w) ?_
  rintro v h1 ⟨rfl, rfl⟩
  have hk := cv_rw (keys_c (h := h.push (.row true 0 false [.mp w])) (by rw [get_push_ne (by omega)]; exact w1) w2 ok.len (rid := h.next) (get_push_eq rfl) (.inr rfl))
  rw [hfin] at hk
  try simp (maxSteps := 4000000) (disch := first | assumption | omega | (simp only [push_next, put_next, empty_next, List.length_cons, List.length_nil] <;> omega) | exact _root_.id rfl | exact _root_.id (fun _ => rfl) | fail) only [↓pre, post, Int.reduceEq, Int.reduceLT, Int.reduceLE, Int.reduceAdd, Int.reduceSub, Int.reduceMul, Int.reduceNeg, Nat.reduceLT, Nat.reduceSub, Nat.reduceMul, Nat.reduceAdd, Nat.reduceLeDiff, reduceIte, reduceCtorEq, Nat.reduceEqDiff, hk]
  repeat' (first
    | (refine ifP_pos (by first | assumption | omega) ?_ <;> try simp (maxSteps := 4000000) (disch := first | assumption | omega | (simp only [push_next, put_next, empty_next, List.length_cons, List.length_nil] <;> omega) | exact _root_.id rfl | exact _root_.id (fun _ => rfl) | fail) only [↓pre, post, Int.reduceEq, Int.reduceLT, Int.reduceLE, Int.reduceAdd, Int.reduceSub, Int.reduceMul, Int.reduceNeg, Nat.reduceLT, Nat.reduceSub, Nat.reduceMul, Nat.reduceAdd, Nat.reduceLeDiff, reduceIte, reduceCtorEq, Nat.reduceEqDiff, hk])
    | (refine ifP_neg (by first | assumption | omega) ?_ <;> try simp (maxSteps := 4000000) (disch := first | assumption | omega | (simp only [push_next, put_next, empty_next, List.length_cons, List.length_nil] <;> omega) | exact _root_.id rfl | exact _root_.id (fun _ => rfl) | fail) only [↓pre, post, Int.reduceEq, Int.reduceLT, Int.reduceLE, Int.reduceAdd, Int.reduceSub, Int.reduceMul, Int.reduceNeg, Nat.reduceLT, Nat.reduceSub, Nat.reduceMul, Nat.reduceAdd, Nat.reduceLeDiff, reduceIte, reduceCtorEq, Nat.reduceEqDiff, hk])
    | (refine ifP_intro (fun hyp => ?_) (fun hyp => ?_) <;> first | simp (maxSteps := 4000000) (disch := first | assumption | omega | (simp only [push_next, put_next, empty_next, List.length_cons, List.length_nil] <;> omega) | exact _root_.id rfl | exact _root_.id (fun _ => rfl) | fail) only [↓pre, post, Int.reduceEq, Int.reduceLT, Int.reduceLE, Int.reduceAdd, Int.reduceSub, Int.reduceMul, Int.reduceNeg, Nat.reduceLT, Nat.reduceSub, Nat.reduceMul, Nat.reduceAdd, Nat.reduceLeDiff, reduceIte, reduceCtorEq, Nat.reduceEqDiff, hk, eq_false hyp] | simp (maxSteps := 4000000) (disch := first | assumption | omega | (simp only [push_next, put_next, empty_next, List.length_cons, List.length_nil] <;> omega) | exact _root_.id rfl | exact _root_.id (fun _ => rfl) | fail) only [↓pre, post, Int.reduceEq, Int.reduceLT, Int.reduceLE, Int.reduceAdd, Int.reduceSub, Int.reduceMul, Int.reduceNeg, Nat.reduceLT, Nat.reduceSub, Nat.reduceMul, Nat.reduceAdd, Nat.reduceLeDiff, reduceIte, reduceCtorEq, Nat.reduceEqDiff, hk, eq_true hyp] | skip))
  exact (Fr.refl _ _).push _

/-! ### settling all -/

def setAll (p : Nat → Int) : List Nat → Nat → List Sec → List Sec
  | [], _, S => S
  | i :: l, k, S => setAll p l (k + 1) (S.set i (settle (nth S i) (p k)))

def dirtyFrom : Nat → List Sec → List Nat
  | _, [] => []
  | n, x :: s => if x.next.isSome then n :: dirtyFrom (n + 1) s else dirtyFrom (n + 1) s

theorem dirtyFrom_eq : ∀ (s : List Sec) (n : Nat), dirtyFrom n s = (List.range' n s.length).filter (fun i => (nth s (i - n)).next.isSome)
  | [], n => rfl
  | x :: s, n => by
    have ih := dirtyFrom_eq s (n + 1)
    have h0 : (List.range' (n + 1) s.length).filter (fun i => (nth (x :: s) (i - n)).next.isSome) = (List.range' (n + 1) s.length).filter (fun i => (nth s (i - (n + 1))).next.isSome) := by
      refine List.filter_congr fun i hi => ?_
      have := (List.mem_range'_1.1 hi).1
      rw [show i - n = (i - (n + 1)) + 1 by omega]
      rfl
    have hx : nth (x :: s) (n - n) = x := by rw [Nat.sub_self]; rfl
    rw [List.length_cons, List.range'_succ, List.filter_cons, hx, h0, ← ih]
    rfl

theorem dirty_eq (s : List Sec) : dirty s = dirtyFrom 0 s := by
  rw [dirtyFrom_eq, ← List.range_eq_range']
  rfl

theorem setAll_eq (p : Nat → Int) : ∀ (s pre : List Sec) (k : Nat), setAll p (dirtyFrom pre.length s) k (pre ++ s) = pre ++ mountS p s k
  | [], pre, k => by simp [dirtyFrom, setAll, mountS]
  | x :: s, pre, k => by
    have hap : pre ++ x :: s = (pre ++ [x]) ++ s := by simp
    cases hx : x.next with
    | none =>
      have ih := setAll_eq p s (pre ++ [x]) k
      simp only [List.length_append, List.length_cons, List.length_nil, Nat.zero_add] at ih
      simp only [dirtyFrom, hx, Option.isSome_none, Bool.false_eq_true, if_false, mountS]
      rw [hap, ih]; simp
    | some v =>
      have ih := setAll_eq p s (pre ++ [settle x (p k)]) (k + 1)
      simp only [List.length_append, List.length_cons, List.length_nil, Nat.zero_add] at ih
      simp only [dirtyFrom, hx, Option.isSome_some, if_true, mountS, setAll]
      have hn : nth (pre ++ x :: s) pre.length = x := by simp [nth, List.getD_eq_getElem?_getD]
      have hs : (pre ++ x :: s).set pre.length (settle x (p k)) = (pre ++ [settle x (p k)]) ++ s := by simp
      rw [hn, hs, ih]; simp

theorem setAll_dirty (p : Nat → Int) (s : List Sec) : setAll p (dirty s) 0 s = mountS p s 0 := by
  have := setAll_eq p s [] 0
  rw [dirty_eq]
  simpa using this

def intN (i : Nat) : AVal := .int .i64 (i : Int)
def tkN (l : List Nat) : Tok := if l.map (fun i : Nat => (i : Int)) = [] then .nil else .none
theorem zslN_eq (l : List Nat) : zslN l = .sl (l.map intN) (tkN l) := by
  unfold zslN zsl tkN
  rw [List.map_map]; rfl

/-- What is yet to be settled. -/
structure ToGo (l : List Nat) (S : List Sec) : Prop where
  nodup : l.Nodup
  mem : ∀ i ∈ l, i < S.length ∧ (nth S i).next.isSome = true

theorem togo_dirty (S : List Sec) : ToGo (dirty S) S := ⟨List.nodup_range.filter _, fun i hi => by
  obtain ⟨h1, h2⟩ := List.mem_filter.1 hi
  exact ⟨List.mem_range.1 h1, h2⟩⟩

theorem ToGo.step {i : Nat} {l : List Nat} {S : List Sec} (t : ToGo (i :: l) S) (x : Sec) : ToGo l (S.set i x) := by
  obtain ⟨h1, h2⟩ := List.nodup_cons.1 t.nodup
  refine ⟨h2, fun j hj => ?_⟩
  obtain ⟨k1, k2⟩ := t.mem j (by simp [hj])
  have hi := (t.mem i (by simp)).1
  refine ⟨by simpa using k1, ?_⟩
  rw [nth_set x hi, if_neg (by rintro rfl; exact h1 hj)]
  exact k2

theorem drop_nth {α : Type} [Inhabited α] {l : List α} {j : Nat} (hj : j < l.length) : l.drop j = nth l j :: l.drop (j + 1) := by
  rw [List.drop_eq_getElem_cons hj]
  simp [nth, List.getD_eq_getElem?_getD, hj]

theorem flush_c (P : PD h d b p w D) : CV F 25 [.ptr d 0] h (fun v h' => v = .int .i64 D.flush.1 ∧ PD h' d b p w D.flush.2 ∧ Fr (PS d b p w) h h') := by
  have P0 := P
  have ok := P.ok
  have hlen := ok.len
  refine CV_wp (fn := c25) rfl ?_
  dsimp only [c25]
  by_cases hoff : D.off = true
  · have hC := cv_rw (check_21 P0 hoff 0)
    rw [show D.flush = (21, D) from if_pos hoff]
    try simp (maxSteps := 4000000) (disch := first | assumption | omega | (simp only [push_next, put_next, empty_next, List.length_cons, List.length_nil] <;> omega) | exact _root_.id rfl | exact _root_.id (fun _ => rfl) | fail) only [↓pre, post, Int.reduceEq, Int.reduceLT, Int.reduceLE, Int.reduceAdd, Int.reduceSub, Int.reduceMul, Int.reduceNeg, Nat.reduceLT, Nat.reduceSub, Nat.reduceMul, Nat.reduceAdd, Nat.reduceLeDiff, reduceIte, reduceCtorEq, Nat.reduceEqDiff, hC]
    repeat' (first
      | (refine ifP_pos (by first | assumption | omega) ?_ <;> try simp (maxSteps := 4000000) (disch := first | assumption | omega | (simp only [push_next, put_next, empty_next, List.length_cons, List.length_nil] <;> omega) | exact _root_.id rfl | exact _root_.id (fun _ => rfl) | fail) only [↓pre, post, Int.reduceEq, Int.reduceLT, Int.reduceLE, Int.reduceAdd, Int.reduceSub, Int.reduceMul, Int.reduceNeg, Nat.reduceLT, Nat.reduceSub, Nat.reduceMul, Nat.reduceAdd, Nat.reduceLeDiff, reduceIte, reduceCtorEq, Nat.reduceEqDiff, hC])
      | (refine ifP_neg (by first | assumption | omega) ?_ <;> try simp (maxSteps := 4000000) (disch := first | assumption | omega | (simp only [push_next, put_next, empty_next, List.length_cons, List.length_nil] <;> omega) | exact _root_.id rfl | exact _root_.id (fun _ => rfl) | fail) only [↓pre, post, Int.reduceEq, Int.reduceLT, Int.reduceLE, Int.reduceAdd, Int.reduceSub, Int.reduceMul, Int.reduceNeg, Nat.reduceLT, Nat.reduceSub, Nat.reduceMul, Nat.reduceAdd, Nat.reduceLeDiff, reduceIte, reduceCtorEq, Nat.reduceEqDiff, hC])
      | (refine ifP_intro (fun hyp => ?_) (fun hyp => ?_) <;> first | simp (maxSteps := 4000000) (disch := first | assumption | omega | (simp only [push_next, put_next, empty_next, List.length_cons, List.length_nil] <;> omega) | exact _root_.id rfl | exact _root_.id (fun _ => rfl) | fail) only [↓pre, post, Int.reduceEq, Int.reduceLT, Int.reduceLE, Int.reduceAdd, Int.reduceSub, Int.reduceMul, Int.reduceNeg, Nat.reduceLT, Nat.reduceSub, Nat.reduceMul, Nat.reduceAdd, Nat.reduceLeDiff, reduceIte, reduceCtorEq, Nat.reduceEqDiff, hC, eq_false hyp] | simp (maxSteps := 4000000) (disch := first | assumption | omega | (simp only [push_next, put_next, empty_next, List.length_cons, List.length_nil] <;> omega) | exact _root_.id rfl | exact _root_.id (fun _ => rfl) | fail) only [↓pre, post, Int.reduceEq, Int.reduceLT, Int.reduceLE, Int.reduceAdd, Int.reduceSub, Int.reduceMul, Int.reduceNeg, Nat.reduceLT, Nat.reduceSub, Nat.reduceMul, Nat.reduceAdd, Nat.reduceLeDiff, reduceIte, reduceCtorEq, Nat.reduceEqDiff, hC, eq_true hyp] | skip))
    exact ⟨P0, Fr.refl _ _⟩
  simp only [Bool.not_eq_true] at hoff
  have hC := cv_rw (check_0 P0 hoff (i := 0) (by omega) (by have := ok.pos; omega))
  try simp (maxSteps := 4000000) (disch := first | assumption | omega | (simp only [push_next, put_next, empty_next, List.length_cons, List.length_nil] <;> omega) | exact _root_.id rfl | exact _root_.id (fun _ => rfl) | fail) only [↓pre, post, Int.reduceEq, Int.reduceLT, Int.reduceLE, Int.reduceAdd, Int.reduceSub, Int.reduceMul, Int.reduceNeg, Nat.reduceLT, Nat.reduceSub, Nat.reduceMul, Nat.reduceAdd, Nat.reduceLeDiff, reduceIte, reduceCtorEq, Nat.reduceEqDiff, hC]
  repeat' (first
    | (refine ifP_pos (by first | assumption | omega) ?_ <;> try simp (maxSteps := 4000000) (disch := first | assumption | omega | (simp only [push_next, put_next, empty_next, List.length_cons, List.length_nil] <;> omega) | exact _root_.id rfl | exact _root_.id (fun _ => rfl) | fail) only [↓pre, post, Int.reduceEq, Int.reduceLT, Int.reduceLE, Int.reduceAdd, Int.reduceSub, Int.reduceMul, Int.reduceNeg, Nat.reduceLT, Nat.reduceSub, Nat.reduceMul, Nat.reduceAdd, Nat.reduceLeDiff, reduceIte, reduceCtorEq, Nat.reduceEqDiff, hC])
    | (refine ifP_neg (by first | assumption | omega) ?_ <;> try simp (maxSteps := 4000000) (disch := first | assumption | omega | (simp only [push_next, put_next, empty_next, List.length_cons, List.length_nil] <;> omega) | exact _root_.id rfl | exact _root_.id (fun _ => rfl) | fail) only [↓pre, post, Int.reduceEq, Int.reduceLT, Int.reduceLE, Int.reduceAdd, Int.reduceSub, Int.reduceMul, Int.reduceNeg, Nat.reduceLT, Nat.reduceSub, Nat.reduceMul, Nat.reduceAdd, Nat.reduceLeDiff, reduceIte, reduceCtorEq, Nat.reduceEqDiff, hC])
    | (refine ifP_intro (fun hyp => ?_) (fun hyp => ?_) <;> first | simp (maxSteps := 4000000) (disch := first | assumption | omega | (simp only [push_next, put_next, empty_next, List.length_cons, List.length_nil] <;> omega) | exact _root_.id rfl | exact _root_.id (fun _ => rfl) | fail) only [↓pre, post, Int.reduceEq, Int.reduceLT, Int.reduceLE, Int.reduceAdd, Int.reduceSub, Int.reduceMul, Int.reduceNeg, Nat.reduceLT, Nat.reduceSub, Nat.reduceMul, Nat.reduceAdd, Nat.reduceLeDiff, reduceIte, reduceCtorEq, Nat.reduceEqDiff, hC, eq_false hyp] | simp (maxSteps := 4000000) (disch := first | assumption | omega | (simp only [push_next, put_next, empty_next, List.length_cons, List.length_nil] <;> omega) | exact _root_.id rfl | exact _root_.id (fun _ => rfl) | fail) only [↓pre, post, Int.reduceEq, Int.reduceLT, Int.reduceLE, Int.reduceAdd, Int.reduceSub, Int.reduceMul, Int.reduceNeg, Nat.reduceLT, Nat.reduceSub, Nat.reduceMul, Nat.reduceAdd, Nat.reduceLeDiff, reduceIte, reduceCtorEq, Nat.reduceEqDiff, hC, eq_true hyp] | skip))
  refine CV_mono (step_c P0) ?_
  rintro v h1 ⟨⟨q, rfl, P1⟩ | ⟨q, rfl, P1⟩, hF⟩
  · rw [show D.flush = (21, { D with off := true }) by unfold Dsk.flush; rw [hoff, if_neg (by simp), if_pos q]]
    try simp (maxSteps := 4000000) (disch := first | assumption | omega | (simp only [push_next, put_next, empty_next, List.length_cons, List.length_nil] <;> omega) | exact _root_.id rfl | exact _root_.id (fun _ => rfl) | fail) only [↓pre, post, Int.reduceEq, Int.reduceLT, Int.reduceLE, Int.reduceAdd, Int.reduceSub, Int.reduceMul, Int.reduceNeg, Nat.reduceLT, Nat.reduceSub, Nat.reduceMul, Nat.reduceAdd, Nat.reduceLeDiff, reduceIte, reduceCtorEq, Nat.reduceEqDiff]
    repeat' (first
      | (refine ifP_pos (by first | assumption | omega) ?_ <;> try simp (maxSteps := 4000000) (disch := first | assumption | omega | (simp only [push_next, put_next, empty_next, List.length_cons, List.length_nil] <;> omega) | exact _root_.id rfl | exact _root_.id (fun _ => rfl) | fail) only [↓pre, post, Int.reduceEq, Int.reduceLT, Int.reduceLE, Int.reduceAdd, Int.reduceSub, Int.reduceMul, Int.reduceNeg, Nat.reduceLT, Nat.reduceSub, Nat.reduceMul, Nat.reduceAdd, Nat.reduceLeDiff, reduceIte, reduceCtorEq, Nat.reduceEqDiff])
      | (refine ifP_neg (by first | assumption | omega) ?_ <;> try simp (maxSteps := 4000000) (disch := first | assumption | omega | (simp only [push_next, put_next, empty_next, List.length_cons, List.length_nil] <;> omega) | exact _root_.id rfl | exact _root_.id (fun _ => rfl) | fail) only [↓pre, post, Int.reduceEq, Int.reduceLT, Int.reduceLE, Int.reduceAdd, Int.reduceSub, Int.reduceMul, Int.reduceNeg, Nat.reduceLT, Nat.reduceSub, Nat.reduceMul, Nat.reduceAdd, Nat.reduceLeDiff, reduceIte, reduceCtorEq, Nat.reduceEqDiff])
      | (refine ifP_intro (fun hyp => ?_) (fun hyp => ?_) <;> first | simp (maxSteps := 4000000) (disch := first | assumption | omega | (simp only [push_next, put_next, empty_next, List.length_cons, List.length_nil] <;> omega) | exact _root_.id rfl | exact _root_.id (fun _ => rfl) | fail) only [↓pre, post, Int.reduceEq, Int.reduceLT, Int.reduceLE, Int.reduceAdd, Int.reduceSub, Int.reduceMul, Int.reduceNeg, Nat.reduceLT, Nat.reduceSub, Nat.reduceMul, Nat.reduceAdd, Nat.reduceLeDiff, reduceIte, reduceCtorEq, Nat.reduceEqDiff, eq_false hyp] | simp (maxSteps := 4000000) (disch := first | assumption | omega | (simp only [push_next, put_next, empty_next, List.length_cons, List.length_nil] <;> omega) | exact _root_.id rfl | exact _root_.id (fun _ => rfl) | fail) only [↓pre, post, Int.reduceEq, Int.reduceLT, Int.reduceLE, Int.reduceAdd, Int.reduceSub, Int.reduceMul, Int.reduceNeg, Nat.reduceLT, Nat.reduceSub, Nat.reduceMul, Nat.reduceAdd, Nat.reduceLeDiff, reduceIte, reduceCtorEq, Nat.reduceEqDiff, eq_true hyp] | skip))
    exact ⟨P1, hF⟩
  · rw [show D.flush = (0, { D with left := stepL D.left, s := mountS (fun _ => 64) D.s 0 }) by unfold Dsk.flush; rw [hoff, if_neg (by simp), if_neg q]]
    try simp (maxSteps := 4000000) (disch := first | assumption | omega | (simp only [push_next, put_next, empty_next, List.length_cons, List.length_nil] <;> omega) | exact _root_.id rfl | exact _root_.id (fun _ => rfl) | fail) only [↓pre, post, Int.reduceEq, Int.reduceLT, Int.reduceLE, Int.reduceAdd, Int.reduceSub, Int.reduceMul, Int.reduceNeg, Nat.reduceLT, Nat.reduceSub, Nat.reduceMul, Nat.reduceAdd, Nat.reduceLeDiff, reduceIte, reduceCtorEq, Nat.reduceEqDiff]
    repeat' (first
      | (refine ifP_pos (by first | assumption | omega) ?_ <;> try simp (maxSteps := 4000000) (disch := first | assumption | omega | (simp only [push_next, put_next, empty_next, List.length_cons, List.length_nil] <;> omega) | exact _root_.id rfl | exact _root_.id (fun _ => rfl) | fail) only [↓pre, post, Int.reduceEq, Int.reduceLT, Int.reduceLE, Int.reduceAdd, Int.reduceSub, Int.reduceMul, Int.reduceNeg, Nat.reduceLT, Nat.reduceSub, Nat.reduceMul, Nat.reduceAdd, Nat.reduceLeDiff, reduceIte, reduceCtorEq, Nat.reduceEqDiff])
      | (refine ifP_neg (by first | assumption | omega) ?_ <;> try simp (maxSteps := 4000000) (disch := first | assumption | omega | (simp only [push_next, put_next, empty_next, List.length_cons, List.length_nil] <;> omega) | exact _root_.id rfl | exact _root_.id (fun _ => rfl) | fail) only [↓pre, post, Int.reduceEq, Int.reduceLT, Int.reduceLE, Int.reduceAdd, Int.reduceSub, Int.reduceMul, Int.reduceNeg, Nat.reduceLT, Nat.reduceSub, Nat.reduceMul, Nat.reduceAdd, Nat.reduceLeDiff, reduceIte, reduceCtorEq, Nat.reduceEqDiff])
      | (refine ifP_intro (fun hyp => ?_) (fun hyp => ?_) <;> first | simp (maxSteps := 4000000) (disch := first | assumption | omega | (simp only [push_next, put_next, empty_next, List.length_cons, List.length_nil] <;> omega) | exact _root_.id rfl | exact _root_.id (fun _ => rfl) | fail) only [↓pre, post, Int.reduceEq, Int.reduceLT, Int.reduceLE, Int.reduceAdd, Int.reduceSub, Int.reduceMul, Int.reduceNeg, Nat.reduceLT, Nat.reduceSub, Nat.reduceMul, Nat.reduceAdd, Nat.reduceLeDiff, reduceIte, reduceCtorEq, Nat.reduceEqDiff, eq_false hyp] | simp (maxSteps := 4000000) (disch := first | assumption | omega | (simp only [push_next, put_next, empty_next, List.length_cons, List.length_nil] <;> omega) | exact _root_.id rfl | exact _root_.id (fun _ => rfl) | fail) only [↓pre, post, Int.reduceEq, Int.reduceLT, Int.reduceLE, Int.reduceAdd, Int.reduceSub, Int.reduceMul, Int.reduceNeg, Nat.reduceLT, Nat.reduceSub, Nat.reduceMul, Nat.reduceAdd, Nat.reduceLeDiff, reduceIte, reduceCtorEq, Nat.reduceEqDiff, eq_true hyp] | skip))
    refine CV_mono (pending_c P1) ?_
    rintro v h2 ⟨rfl, hF2⟩
    have P2 := P1.fr hF2 (by simp)
    have hF2' : Fr (PS d b p w) h h2 := hF.trans (hF2.mono (by simp))
    have hdl : (dirty D.s).length ≤ 4096 := Nat.le_trans (List.length_filter_le _ _) (by simpa using hlen)
    generalize hl : dirty D.s = l at hdl
    rw [zslN_eq]
    try simp (maxSteps := 4000000) (disch := first | assumption | omega | (simp only [push_next, put_next, empty_next, List.length_cons, List.length_nil] <;> omega) | exact _root_.id rfl | exact _root_.id (fun _ => rfl) | fail) only [↓pre, post, Int.reduceEq, Int.reduceLT, Int.reduceLE, Int.reduceAdd, Int.reduceSub, Int.reduceMul, Int.reduceNeg, Nat.reduceLT, Nat.reduceSub, Nat.reduceMul, Nat.reduceAdd, Nat.reduceLeDiff, reduceIte, reduceCtorEq, Nat.reduceEqDiff]
    repeat' (first
      | (refine ifP_pos (by first | assumption | omega) ?_ <;> try simp (maxSteps := 4000000) (disch := first | assumption | omega | (simp only [push_next, put_next, empty_next, List.length_cons, List.length_nil] <;> omega) | exact _root_.id rfl | exact _root_.id (fun _ => rfl) | fail) only [↓pre, post, Int.reduceEq, Int.reduceLT, Int.reduceLE, Int.reduceAdd, Int.reduceSub, Int.reduceMul, Int.reduceNeg, Nat.reduceLT, Nat.reduceSub, Nat.reduceMul, Nat.reduceAdd, Nat.reduceLeDiff, reduceIte, reduceCtorEq, Nat.reduceEqDiff])
      | (refine ifP_neg (by first | assumption | omega) ?_ <;> try simp (maxSteps := 4000000) (disch := first | assumption | omega | (simp only [push_next, put_next, empty_next, List.length_cons, List.length_nil] <;> omega) | exact _root_.id rfl | exact _root_.id (fun _ => rfl) | fail) only [↓pre, post, Int.reduceEq, Int.reduceLT, Int.reduceLE, Int.reduceAdd, Int.reduceSub, Int.reduceMul, Int.reduceNeg, Nat.reduceLT, Nat.reduceSub, Nat.reduceMul, Nat.reduceAdd, Nat.reduceLeDiff, reduceIte, reduceCtorEq, Nat.reduceEqDiff])
      | (refine ifP_intro (fun hyp => ?_) (fun hyp => ?_) <;> first | simp (maxSteps := 4000000) (disch := first | assumption | omega | (simp only [push_next, put_next, empty_next, List.length_cons, List.length_nil] <;> omega) | exact _root_.id rfl | exact _root_.id (fun _ => rfl) | fail) only [↓pre, post, Int.reduceEq, Int.reduceLT, Int.reduceLE, Int.reduceAdd, Int.reduceSub, Int.reduceMul, Int.reduceNeg, Nat.reduceLT, Nat.reduceSub, Nat.reduceMul, Nat.reduceAdd, Nat.reduceLeDiff, reduceIte, reduceCtorEq, Nat.reduceEqDiff, eq_false hyp] | simp (maxSteps := 4000000) (disch := first | assumption | omega | (simp only [push_next, put_next, empty_next, List.length_cons, List.length_nil] <;> omega) | exact _root_.id rfl | exact _root_.id (fun _ => rfl) | fail) only [↓pre, post, Int.reduceEq, Int.reduceLT, Int.reduceLE, Int.reduceAdd, Int.reduceSub, Int.reduceMul, Int.reduceNeg, Nat.reduceLT, Nat.reduceSub, Nat.reduceMul, Nat.reduceAdd, Nat.reduceLeDiff, reduceIte, reduceCtorEq, Nat.reduceEqDiff, eq_true hyp] | skip))
    refine w_loop (fun m vs h3 => ∃ (j : Nat) (S : List Sec) (x1 x2 x3 x4 x5 x6 x7 : AVal), m = l.length - j ∧ j ≤ l.length ∧ vs = [.ptr d 0, x1, x2, x3, x4, x5, x6, .sl (l.map intN) (tkN l), .int .i64 (l.length : Int), .int .i64 (j : Int), x7] ∧
      PD h3 d b p w { D with left := stepL D.left, s := S } ∧ Fr (PS d b p w) h h3 ∧ ToGo (l.drop j) S ∧ setAll (fun _ => 64) (l.drop j) j S = mountS (fun _ => 64) D.s 0) l.length
      ⟨0, D.s, _, _, _, _, _, _, _, by omega, by omega, by first | rfl | (simp only [List.length_map]; rfl), P2, hF2', by rw [List.drop_zero, ← hl]; exact togo_dirty D.s, by rw [List.drop_zero, ← hl]; exact setAll_dirty _ _⟩ ?_
    rintro m vs h3 ⟨j, S, x1, x2, x3, x4, x5, x6, x7, rfl, hj, rfl, P3, hF3, T, hS⟩
    by_cases hjl : j < l.length
    · rw [drop_nth hjl] at T hS
      have hi := T.mem _ (List.mem_cons_self ..)
      obtain ⟨v, hv⟩ := Option.isSome_iff_exists.1 hi.2
      try simp (maxSteps := 4000000) (disch := first | assumption | omega | (simp only [push_next, put_next, empty_next, List.length_cons, List.length_nil] <;> omega) | exact _root_.id rfl | exact _root_.id (fun _ => rfl) | fail) only [↓pre, post, Int.reduceEq, Int.reduceLT, Int.reduceLE, Int.reduceAdd, Int.reduceSub, Int.reduceMul, Int.reduceNeg, Nat.reduceLT, Nat.reduceSub, Nat.reduceMul, Nat.reduceAdd, Nat.reduceLeDiff, reduceIte, reduceCtorEq, Nat.reduceEqDiff, intN]
      repeat' (first
        | (refine ifP_pos (by first | assumption | omega) ?_ <;> try simp (maxSteps := 4000000) (disch := first | assumption | omega | (simp only [push_next, put_next, empty_next, List.length_cons, List.length_nil] <;> omega) | exact _root_.id rfl | exact _root_.id (fun _ => rfl) | fail) only [↓pre, post, Int.reduceEq, Int.reduceLT, Int.reduceLE, Int.reduceAdd, Int.reduceSub, Int.reduceMul, Int.reduceNeg, Nat.reduceLT, Nat.reduceSub, Nat.reduceMul, Nat.reduceAdd, Nat.reduceLeDiff, reduceIte, reduceCtorEq, Nat.reduceEqDiff, intN])
        | (refine ifP_neg (by first | assumption | omega) ?_ <;> try simp (maxSteps := 4000000) (disch := first | assumption | omega | (simp only [push_next, put_next, empty_next, List.length_cons, List.length_nil] <;> omega) | exact _root_.id rfl | exact _root_.id (fun _ => rfl) | fail) only [↓pre, post, Int.reduceEq, Int.reduceLT, Int.reduceLE, Int.reduceAdd, Int.reduceSub, Int.reduceMul, Int.reduceNeg, Nat.reduceLT, Nat.reduceSub, Nat.reduceMul, Nat.reduceAdd, Nat.reduceLeDiff, reduceIte, reduceCtorEq, Nat.reduceEqDiff, intN])
        | (refine ifP_intro (fun hyp => ?_) (fun hyp => ?_) <;> first | simp (maxSteps := 4000000) (disch := first | assumption | omega | (simp only [push_next, put_next, empty_next, List.length_cons, List.length_nil] <;> omega) | exact _root_.id rfl | exact _root_.id (fun _ => rfl) | fail) only [↓pre, post, Int.reduceEq, Int.reduceLT, Int.reduceLE, Int.reduceAdd, Int.reduceSub, Int.reduceMul, Int.reduceNeg, Nat.reduceLT, Nat.reduceSub, Nat.reduceMul, Nat.reduceAdd, Nat.reduceLeDiff, reduceIte, reduceCtorEq, Nat.reduceEqDiff, intN, eq_false hyp] | simp (maxSteps := 4000000) (disch := first | assumption | omega | (simp only [push_next, put_next, empty_next, List.length_cons, List.length_nil] <;> omega) | exact _root_.id rfl | exact _root_.id (fun _ => rfl) | fail) only [↓pre, post, Int.reduceEq, Int.reduceLT, Int.reduceLE, Int.reduceAdd, Int.reduceSub, Int.reduceMul, Int.reduceNeg, Nat.reduceLT, Nat.reduceSub, Nat.reduceMul, Nat.reduceAdd, Nat.reduceLeDiff, reduceIte, reduceCtorEq, Nat.reduceEqDiff, intN, eq_true hyp] | skip))
      refine CV_mono (settle_c P3 (k := nth l j) hi.1 hv 64) ?_
      rintro u h4 ⟨P4, hF4⟩
      try simp (maxSteps := 4000000) (disch := first | assumption | omega | (simp only [push_next, put_next, empty_next, List.length_cons, List.length_nil] <;> omega) | exact _root_.id rfl | exact _root_.id (fun _ => rfl) | fail) only [↓pre, post, Int.reduceEq, Int.reduceLT, Int.reduceLE, Int.reduceAdd, Int.reduceSub, Int.reduceMul, Int.reduceNeg, Nat.reduceLT, Nat.reduceSub, Nat.reduceMul, Nat.reduceAdd, Nat.reduceLeDiff, reduceIte, reduceCtorEq, Nat.reduceEqDiff]
      repeat' (first
        | (refine ifP_pos (by first | assumption | omega) ?_ <;> try simp (maxSteps := 4000000) (disch := first | assumption | omega | (simp only [push_next, put_next, empty_next, List.length_cons, List.length_nil] <;> omega) | exact _root_.id rfl | exact _root_.id (fun _ => rfl) | fail) only [↓pre, post, Int.reduceEq, Int.reduceLT, Int.reduceLE, Int.reduceAdd, Int.reduceSub, Int.reduceMul, Int.reduceNeg, Nat.reduceLT, Nat.reduceSub, Nat.reduceMul, Nat.reduceAdd, Nat.reduceLeDiff, reduceIte, reduceCtorEq, Nat.reduceEqDiff])
        | (refine ifP_neg (by first | assumption | omega) ?_ <;> try simp (maxSteps := 4000000) (disch := first | assumption | omega | (simp only [push_next, put_next, empty_next, List.length_cons, List.length_nil] <;> omega) | exact _root_.id rfl | exact _root_.id (fun _ => rfl) | fail) only [↓pre, post, Int.reduceEq, Int.reduceLT, Int.reduceLE, Int.reduceAdd, Int.reduceSub, Int.reduceMul, Int.reduceNeg, Nat.reduceLT, Nat.reduceSub, Nat.reduceMul, Nat.reduceAdd, Nat.reduceLeDiff, reduceIte, reduceCtorEq, Nat.reduceEqDiff])
        | (refine ifP_intro (fun hyp => ?_) (fun hyp => ?_) <;> first | simp (maxSteps := 4000000) (disch := first | assumption | omega | (simp only [push_next, put_next, empty_next, List.length_cons, List.length_nil] <;> omega) | exact _root_.id rfl | exact _root_.id (fun _ => rfl) | fail) only [↓pre, post, Int.reduceEq, Int.reduceLT, Int.reduceLE, Int.reduceAdd, Int.reduceSub, Int.reduceMul, Int.reduceNeg, Nat.reduceLT, Nat.reduceSub, Nat.reduceMul, Nat.reduceAdd, Nat.reduceLeDiff, reduceIte, reduceCtorEq, Nat.reduceEqDiff, eq_false hyp] | simp (maxSteps := 4000000) (disch := first | assumption | omega | (simp only [push_next, put_next, empty_next, List.length_cons, List.length_nil] <;> omega) | exact _root_.id rfl | exact _root_.id (fun _ => rfl) | fail) only [↓pre, post, Int.reduceEq, Int.reduceLT, Int.reduceLE, Int.reduceAdd, Int.reduceSub, Int.reduceMul, Int.reduceNeg, Nat.reduceLT, Nat.reduceSub, Nat.reduceMul, Nat.reduceAdd, Nat.reduceLeDiff, reduceIte, reduceCtorEq, Nat.reduceEqDiff, eq_true hyp] | skip))
      exact lp_n ⟨_, by omega, j + 1, _, _, _, _, _, _, _, _, rfl, by omega, by push_cast; rfl, P4, hF3.trans hF4, T.step _, hS⟩
    · have : j = l.length := by omega
      subst this
      rw [List.drop_length] at hS
      simp only [setAll] at hS
      subst hS
      try simp (maxSteps := 4000000) (disch := first | assumption | omega | (simp only [push_next, put_next, empty_next, List.length_cons, List.length_nil] <;> omega) | exact _root_.id rfl | exact _root_.id (fun _ => rfl) | fail) only [↓pre, post, Int.reduceEq, Int.reduceLT, Int.reduceLE, Int.reduceAdd, Int.reduceSub, Int.reduceMul, Int.reduceNeg, Nat.reduceLT, Nat.reduceSub, Nat.reduceMul, Nat.reduceAdd, Nat.reduceLeDiff, reduceIte, reduceCtorEq, Nat.reduceEqDiff]
      repeat' (first
        | (refine ifP_pos (by first | assumption | omega) ?_ <;> try simp (maxSteps := 4000000) (disch := first | assumption | omega | (simp only [push_next, put_next, empty_next, List.length_cons, List.length_nil] <;> omega) | exact _root_.id rfl | exact _root_.id (fun _ => rfl) | fail) only [↓pre, post, Int.reduceEq, Int.reduceLT, Int.reduceLE, Int.reduceAdd, Int.reduceSub, Int.reduceMul, Int.reduceNeg, Nat.reduceLT, Nat.reduceSub, Nat.reduceMul, Nat.reduceAdd, Nat.reduceLeDiff, reduceIte, reduceCtorEq, Nat.reduceEqDiff])
        | (refine ifP_neg (by first | assumption | omega) ?_ <;> try simp (maxSteps := 4000000) (disch := first | assumption | omega | (simp only [push_next, put_next, empty_next, List.length_cons, List.length_nil] <;> omega) | exact _root_.id rfl | exact _root_.id (fun _ => rfl) | fail) only [↓pre, post, Int.reduceEq, Int.reduceLT, Int.reduceLE, Int.reduceAdd, Int.reduceSub, Int.reduceMul, Int.reduceNeg, Nat.reduceLT, Nat.reduceSub, Nat.reduceMul, Nat.reduceAdd, Nat.reduceLeDiff, reduceIte, reduceCtorEq, Nat.reduceEqDiff])
        | (refine ifP_intro (fun hyp => ?_) (fun hyp => ?_) <;> first | simp (maxSteps := 4000000) (disch := first | assumption | omega | (simp only [push_next, put_next, empty_next, List.length_cons, List.length_nil] <;> omega) | exact _root_.id rfl | exact _root_.id (fun _ => rfl) | fail) only [↓pre, post, Int.reduceEq, Int.reduceLT, Int.reduceLE, Int.reduceAdd, Int.reduceSub, Int.reduceMul, Int.reduceNeg, Nat.reduceLT, Nat.reduceSub, Nat.reduceMul, Nat.reduceAdd, Nat.reduceLeDiff, reduceIte, reduceCtorEq, Nat.reduceEqDiff, eq_false hyp] | simp (maxSteps := 4000000) (disch := first | assumption | omega | (simp only [push_next, put_next, empty_next, List.length_cons, List.length_nil] <;> omega) | exact _root_.id rfl | exact _root_.id (fun _ => rfl) | fail) only [↓pre, post, Int.reduceEq, Int.reduceLT, Int.reduceLE, Int.reduceAdd, Int.reduceSub, Int.reduceMul, Int.reduceNeg, Nat.reduceLT, Nat.reduceSub, Nat.reduceMul, Nat.reduceAdd, Nat.reduceLeDiff, reduceIte, reduceCtorEq, Nat.reduceEqDiff, eq_true hyp] | skip))
      exact ⟨P3, hF3⟩

theorem mount_c (P : PD h d b p w D) (picks : List Int) (tk : Tok) (hpl : picks.length ≤ 9223372036854775807) : CV F 26 [.ptr d 0, .sl (picks.map (.int .i64)) tk] h (fun _ h' => PD h' d b p w (D.mount picks) ∧ Fr (PS d b p w) h h') := by
  have P0 := P
  have ok := P.ok
  have hlen := ok.len
  refine CV_wp (fn := c26) rfl ?_
  dsimp only [c26]
  try simp (maxSteps := 4000000) (disch := first | assumption | omega | (simp only [push_next, put_next, empty_next, List.length_cons, List.length_nil] <;> omega) | exact _root_.id rfl | exact _root_.id (fun _ => rfl) | fail) only [↓pre, post, Int.reduceEq, Int.reduceLT, Int.reduceLE, Int.reduceAdd, Int.reduceSub, Int.reduceMul, Int.reduceNeg, Nat.reduceLT, Nat.reduceSub, Nat.reduceMul, Nat.reduceAdd, Nat.reduceLeDiff, reduceIte, reduceCtorEq, Nat.reduceEqDiff]
  repeat' (first
    | (refine ifP_pos (by first | assumption | omega) ?_ <;> try simp (maxSteps := 4000000) (disch := first | assumption | omega | (simp only [push_next, put_next, empty_next, List.length_cons, List.length_nil] <;> omega) | exact _root_.id rfl | exact _root_.id (fun _ => rfl) | fail) only [↓pre, post, Int.reduceEq, Int.reduceLT, Int.reduceLE, Int.reduceAdd, Int.reduceSub, Int.reduceMul, Int.reduceNeg, Nat.reduceLT, Nat.reduceSub, Nat.reduceMul, Nat.reduceAdd, Nat.reduceLeDiff, reduceIte, reduceCtorEq, Nat.reduceEqDiff])
    | (refine ifP_neg (by first | assumption | omega) ?_ <;> try simp (maxSteps := 4000000) (disch := first | assumption | omega | (simp only [push_next, put_next, empty_next, List.length_cons, List.length_nil] <;> omega) | exact _root_.id rfl | exact _root_.id (fun _ => rfl) | fail) only [↓pre, post, Int.reduceEq, Int.reduceLT, Int.reduceLE, Int.reduceAdd, Int.reduceSub, Int.reduceMul, Int.reduceNeg, Nat.reduceLT, Nat.reduceSub, Nat.reduceMul, Nat.reduceAdd, Nat.reduceLeDiff, reduceIte, reduceCtorEq, Nat.reduceEqDiff])
    | (refine ifP_intro (fun hyp => ?_) (fun hyp => ?_) <;> first | simp (maxSteps := 4000000) (disch := first | assumption | omega | (simp only [push_next, put_next, empty_next, List.length_cons, List.length_nil] <;> omega) | exact _root_.id rfl | exact _root_.id (fun _ => rfl) | fail) only [↓pre, post, Int.reduceEq, Int.reduceLT, Int.reduceLE, Int.reduceAdd, Int.reduceSub, Int.reduceMul, Int.reduceNeg, Nat.reduceLT, Nat.reduceSub, Nat.reduceMul, Nat.reduceAdd, Nat.reduceLeDiff, reduceIte, reduceCtorEq, Nat.reduceEqDiff, eq_false hyp] | simp (maxSteps := 4000000) (disch := first | assumption | omega | (simp only [push_next, put_next, empty_next, List.length_cons, List.length_nil] <;> omega) | exact _root_.id rfl | exact _root_.id (fun _ => rfl) | fail) only [↓pre, post, Int.reduceEq, Int.reduceLT, Int.reduceLE, Int.reduceAdd, Int.reduceSub, Int.reduceMul, Int.reduceNeg, Nat.reduceLT, Nat.reduceSub, Nat.reduceMul, Nat.reduceAdd, Nat.reduceLeDiff, reduceIte, reduceCtorEq, Nat.reduceEqDiff, eq_true hyp] | skip))
  refine CV_mono (pending_c P) ?_
  rintro v h2 ⟨rfl, hF2⟩
  have P2 := P.fr hF2 (by simp)
  have hF2' : Fr (PS d b p w) h h2 := hF2.mono (by simp)
  have hdl : (dirty D.s).length ≤ 4096 := Nat.le_trans (List.length_filter_le _ _) (by simpa using hlen)
  generalize hl : dirty D.s = l at hdl
  rw [zslN_eq]
  try simp (maxSteps := 4000000) (disch := first | assumption | omega | (simp only [push_next, put_next, empty_next, List.length_cons, List.length_nil] <;> omega) | exact _root_.id rfl | exact _root_.id (fun _ => rfl) | fail) only [↓pre, post, Int.reduceEq, Int.reduceLT, Int.reduceLE, Int.reduceAdd, Int.reduceSub, Int.reduceMul, Int.reduceNeg, Nat.reduceLT, Nat.reduceSub, Nat.reduceMul, Nat.reduceAdd, Nat.reduceLeDiff, reduceIte, reduceCtorEq, Nat.reduceEqDiff]
  repeat' (first
    | (refine ifP_pos (by first | assumption | omega) ?_ <;> try simp (maxSteps := 4000000) (disch := first | assumption | omega | (simp only [push_next, put_next, empty_next, List.length_cons, List.length_nil] <;> omega) | exact _root_.id rfl | exact _root_.id (fun _ => rfl) | fail) only [↓pre, post, Int.reduceEq, Int.reduceLT, Int.reduceLE, Int.reduceAdd, Int.reduceSub, Int.reduceMul, Int.reduceNeg, Nat.reduceLT, Nat.reduceSub, Nat.reduceMul, Nat.reduceAdd, Nat.reduceLeDiff, reduceIte, reduceCtorEq, Nat.reduceEqDiff])
    | (refine ifP_neg (by first | assumption | omega) ?_ <;> try simp (maxSteps := 4000000) (disch := first | assumption | omega | (simp only [push_next, put_next, empty_next, List.length_cons, List.length_nil] <;> omega) | exact _root_.id rfl | exact _root_.id (fun _ => rfl) | fail) only [↓pre, post, Int.reduceEq, Int.reduceLT, Int.reduceLE, Int.reduceAdd, Int.reduceSub, Int.reduceMul, Int.reduceNeg, Nat.reduceLT, Nat.reduceSub, Nat.reduceMul, Nat.reduceAdd, Nat.reduceLeDiff, reduceIte, reduceCtorEq, Nat.reduceEqDiff])
    | (refine ifP_intro (fun hyp => ?_) (fun hyp => ?_) <;> first | simp (maxSteps := 4000000) (disch := first | assumption | omega | (simp only [push_next, put_next, empty_next, List.length_cons, List.length_nil] <;> omega) | exact _root_.id rfl | exact _root_.id (fun _ => rfl) | fail) only [↓pre, post, Int.reduceEq, Int.reduceLT, Int.reduceLE, Int.reduceAdd, Int.reduceSub, Int.reduceMul, Int.reduceNeg, Nat.reduceLT, Nat.reduceSub, Nat.reduceMul, Nat.reduceAdd, Nat.reduceLeDiff, reduceIte, reduceCtorEq, Nat.reduceEqDiff, eq_false hyp] | simp (maxSteps := 4000000) (disch := first | assumption | omega | (simp only [push_next, put_next, empty_next, List.length_cons, List.length_nil] <;> omega) | exact _root_.id rfl | exact _root_.id (fun _ => rfl) | fail) only [↓pre, post, Int.reduceEq, Int.reduceLT, Int.reduceLE, Int.reduceAdd, Int.reduceSub, Int.reduceMul, Int.reduceNeg, Nat.reduceLT, Nat.reduceSub, Nat.reduceMul, Nat.reduceAdd, Nat.reduceLeDiff, reduceIte, reduceCtorEq, Nat.reduceEqDiff, eq_true hyp] | skip))
  refine w_loop (fun m vs h3 => ∃ (j : Nat) (S : List Sec) (x1 x2 x3 x4 x5 : AVal), m = l.length - j ∧ j ≤ l.length ∧ vs = [.ptr d 0, .sl (picks.map (.int .i64)) tk, x1, x2, x3, .sl (l.map intN) (tkN l), .int .i64 (l.length : Int), .int .i64 (j : Int), x4, x5] ∧
    PD h3 d b p w { D with s := S } ∧ Fr (PS d b p w) h h3 ∧ ToGo (l.drop j) S ∧ setAll (pickF picks) (l.drop j) j S = mountS (pickF picks) D.s 0) l.length
    ⟨0, D.s, _, _, _, _, _, by omega, by omega, by first | rfl | (simp only [List.length_map]; rfl), P2, hF2', by rw [List.drop_zero, ← hl]; exact togo_dirty D.s, by rw [List.drop_zero, ← hl]; exact setAll_dirty _ _⟩ ?_
  rintro m vs h3 ⟨j, S, x1, x2, x3, x4, x5, rfl, hj, rfl, P3, hF3, T, hS⟩
  by_cases hjl : j < l.length
  · rw [drop_nth hjl] at T hS
    have hi := T.mem _ (List.mem_cons_self ..)
    obtain ⟨v, hv⟩ := Option.isSome_iff_exists.1 hi.2
    by_cases hjp : j < picks.length
    · try simp (maxSteps := 4000000) (disch := first | assumption | omega | (simp only [push_next, put_next, empty_next, List.length_cons, List.length_nil] <;> omega) | exact _root_.id rfl | exact _root_.id (fun _ => rfl) | fail) only [↓pre, post, Int.reduceEq, Int.reduceLT, Int.reduceLE, Int.reduceAdd, Int.reduceSub, Int.reduceMul, Int.reduceNeg, Nat.reduceLT, Nat.reduceSub, Nat.reduceMul, Nat.reduceAdd, Nat.reduceLeDiff, reduceIte, reduceCtorEq, Nat.reduceEqDiff, intN]
      repeat' (first
        | (refine ifP_pos (by first | assumption | omega) ?_ <;> try simp (maxSteps := 4000000) (disch := first | assumption | omega | (simp only [push_next, put_next, empty_next, List.length_cons, List.length_nil] <;> omega) | exact _root_.id rfl | exact _root_.id (fun _ => rfl) | fail) only [↓pre, post, Int.reduceEq, Int.reduceLT, Int.reduceLE, Int.reduceAdd, Int.reduceSub, Int.reduceMul, Int.reduceNeg, Nat.reduceLT, Nat.reduceSub, Nat.reduceMul, Nat.reduceAdd, Nat.reduceLeDiff, reduceIte, reduceCtorEq, Nat.reduceEqDiff, intN])
        | (refine ifP_neg (by first | assumption | omega) ?_ <;> try simp (maxSteps := 4000000) (disch := first | assumption | omega | (simp only [push_next, put_next, empty_next, List.length_cons, List.length_nil] <;> omega) | exact _root_.id rfl | exact _root_.id (fun _ => rfl) | fail) only [↓pre, post, Int.reduceEq, Int.reduceLT, Int.reduceLE, Int.reduceAdd, Int.reduceSub, Int.reduceMul, Int.reduceNeg, Nat.reduceLT, Nat.reduceSub, Nat.reduceMul, Nat.reduceAdd, Nat.reduceLeDiff, reduceIte, reduceCtorEq, Nat.reduceEqDiff, intN])
        | (refine ifP_intro (fun hyp => ?_) (fun hyp => ?_) <;> first | simp (maxSteps := 4000000) (disch := first | assumption | omega | (simp only [push_next, put_next, empty_next, List.length_cons, List.length_nil] <;> omega) | exact _root_.id rfl | exact _root_.id (fun _ => rfl) | fail) only [↓pre, post, Int.reduceEq, Int.reduceLT, Int.reduceLE, Int.reduceAdd, Int.reduceSub, Int.reduceMul, Int.reduceNeg, Nat.reduceLT, Nat.reduceSub, Nat.reduceMul, Nat.reduceAdd, Nat.reduceLeDiff, reduceIte, reduceCtorEq, Nat.reduceEqDiff, intN, eq_false hyp] | simp (maxSteps := 4000000) (disch := first | assumption | omega | (simp only [push_next, put_next, empty_next, List.length_cons, List.length_nil] <;> omega) | exact _root_.id rfl | exact _root_.id (fun _ => rfl) | fail) only [↓pre, post, Int.reduceEq, Int.reduceLT, Int.reduceLE, Int.reduceAdd, Int.reduceSub, Int.reduceMul, Int.reduceNeg, Nat.reduceLT, Nat.reduceSub, Nat.reduceMul, Nat.reduceAdd, Nat.reduceLeDiff, reduceIte, reduceCtorEq, Nat.reduceEqDiff, intN, eq_true hyp] | skip))
      refine CV_mono (settle_c P3 (k := nth l j) hi.1 hv (nth picks j)) ?_
      rintro u h4 ⟨P4, hF4⟩
      try simp (maxSteps := 4000000) (disch := first | assumption | omega | (simp only [push_next, put_next, empty_next, List.length_cons, List.length_nil] <;> omega) | exact _root_.id rfl | exact _root_.id (fun _ => rfl) | fail) only [↓pre, post, Int.reduceEq, Int.reduceLT, Int.reduceLE, Int.reduceAdd, Int.reduceSub, Int.reduceMul, Int.reduceNeg, Nat.reduceLT, Nat.reduceSub, Nat.reduceMul, Nat.reduceAdd, Nat.reduceLeDiff, reduceIte, reduceCtorEq, Nat.reduceEqDiff]
      repeat' (first
        | (refine ifP_pos (by first | assumption | omega) ?_ <;> try simp (maxSteps := 4000000) (disch := first | assumption | omega | (simp only [push_next, put_next, empty_next, List.length_cons, List.length_nil] <;> omega) | exact _root_.id rfl | exact _root_.id (fun _ => rfl) | fail) only [↓pre, post, Int.reduceEq, Int.reduceLT, Int.reduceLE, Int.reduceAdd, Int.reduceSub, Int.reduceMul, Int.reduceNeg, Nat.reduceLT, Nat.reduceSub, Nat.reduceMul, Nat.reduceAdd, Nat.reduceLeDiff, reduceIte, reduceCtorEq, Nat.reduceEqDiff])
        | (refine ifP_neg (by first | assumption | omega) ?_ <;> try simp (maxSteps := 4000000) (disch := first | assumption | omega | (simp only [push_next, put_next, empty_next, List.length_cons, List.length_nil] <;> omega) | exact _root_.id rfl | exact _root_.id (fun _ => rfl) | fail) only [↓pre, post, Int.reduceEq, Int.reduceLT, Int.reduceLE, Int.reduceAdd, Int.reduceSub, Int.reduceMul, Int.reduceNeg, Nat.reduceLT, Nat.reduceSub, Nat.reduceMul, Nat.reduceAdd, Nat.reduceLeDiff, reduceIte, reduceCtorEq, Nat.reduceEqDiff])
        | (refine ifP_intro (fun hyp => ?_) (fun hyp => ?_) <;> first | simp (maxSteps := 4000000) (disch := first | assumption | omega | (simp only [push_next, put_next, empty_next, List.length_cons, List.length_nil] <;> omega) | exact _root_.id rfl | exact _root_.id (fun _ => rfl) | fail) only [↓pre, post, Int.reduceEq, Int.reduceLT, Int.reduceLE, Int.reduceAdd, Int.reduceSub, Int.reduceMul, Int.reduceNeg, Nat.reduceLT, Nat.reduceSub, Nat.reduceMul, Nat.reduceAdd, Nat.reduceLeDiff, reduceIte, reduceCtorEq, Nat.reduceEqDiff, eq_false hyp] | simp (maxSteps := 4000000) (disch := first | assumption | omega | (simp only [push_next, put_next, empty_next, List.length_cons, List.length_nil] <;> omega) | exact _root_.id rfl | exact _root_.id (fun _ => rfl) | fail) only [↓pre, post, Int.reduceEq, Int.reduceLT, Int.reduceLE, Int.reduceAdd, Int.reduceSub, Int.reduceMul, Int.reduceNeg, Nat.reduceLT, Nat.reduceSub, Nat.reduceMul, Nat.reduceAdd, Nat.reduceLeDiff, reduceIte, reduceCtorEq, Nat.reduceEqDiff, eq_true hyp] | skip))
      exact lp_n ⟨_, by omega, j + 1, _, _, _, _, _, _, rfl, by omega, by push_cast; rfl, P4, hF3.trans hF4, T.step _, by simp only [setAll, pickF, if_pos hjp] at hS; exact hS⟩
    · try simp (maxSteps := 4000000) (disch := first | assumption | omega | (simp only [push_next, put_next, empty_next, List.length_cons, List.length_nil] <;> omega) | exact _root_.id rfl | exact _root_.id (fun _ => rfl) | fail) only [↓pre, post, Int.reduceEq, Int.reduceLT, Int.reduceLE, Int.reduceAdd, Int.reduceSub, Int.reduceMul, Int.reduceNeg, Nat.reduceLT, Nat.reduceSub, Nat.reduceMul, Nat.reduceAdd, Nat.reduceLeDiff, reduceIte, reduceCtorEq, Nat.reduceEqDiff, intN]
      repeat' (first
        | (refine ifP_pos (by first | assumption | omega) ?_ <;> try simp (maxSteps := 4000000) (disch := first | assumption | omega | (simp only [push_next, put_next, empty_next, List.length_cons, List.length_nil] <;> omega) | exact _root_.id rfl | exact _root_.id (fun _ => rfl) | fail) only [↓pre, post, Int.reduceEq, Int.reduceLT, Int.reduceLE, Int.reduceAdd, Int.reduceSub, Int.reduceMul, Int.reduceNeg, Nat.reduceLT, Nat.reduceSub, Nat.reduceMul, Nat.reduceAdd, Nat.reduceLeDiff, reduceIte, reduceCtorEq, Nat.reduceEqDiff, intN])
        | (refine ifP_neg (by first | assumption | omega) ?_ <;> try simp (maxSteps := 4000000) (disch := first | assumption | omega | (simp only [push_next, put_next, empty_next, List.length_cons, List.length_nil] <;> omega) | exact _root_.id rfl | exact _root_.id (fun _ => rfl) | fail) only [↓pre, post, Int.reduceEq, Int.reduceLT, Int.reduceLE, Int.reduceAdd, Int.reduceSub, Int.reduceMul, Int.reduceNeg, Nat.reduceLT, Nat.reduceSub, Nat.reduceMul, Nat.reduceAdd, Nat.reduceLeDiff, reduceIte, reduceCtorEq, Nat.reduceEqDiff, intN])
        | (refine ifP_intro (fun hyp => ?_) (fun hyp => ?_) <;> first | simp (maxSteps := 4000000) (disch := first | assumption | omega | (simp only [push_next, put_next, empty_next, List.length_cons, List.length_nil] <;> omega) | exact _root_.id rfl | exact _root_.id (fun _ => rfl) | fail) only [↓pre, post, Int.reduceEq, Int.reduceLT, Int.reduceLE, Int.reduceAdd, Int.reduceSub, Int.reduceMul, Int.reduceNeg, Nat.reduceLT, Nat.reduceSub, Nat.reduceMul, Nat.reduceAdd, Nat.reduceLeDiff, reduceIte, reduceCtorEq, Nat.reduceEqDiff, intN, eq_false hyp] | simp (maxSteps := 4000000) (disch := first | assumption | omega | (simp only [push_next, put_next, empty_next, List.length_cons, List.length_nil] <;> omega) | exact _root_.id rfl | exact _root_.id (fun _ => rfl) | fail) only [↓pre, post, Int.reduceEq, Int.reduceLT, Int.reduceLE, Int.reduceAdd, Int.reduceSub, Int.reduceMul, Int.reduceNeg, Nat.reduceLT, Nat.reduceSub, Nat.reduceMul, Nat.reduceAdd, Nat.reduceLeDiff, reduceIte, reduceCtorEq, Nat.reduceEqDiff, intN, eq_true hyp] | skip))
      refine CV_mono (settle_c P3 (k := nth l j) hi.1 hv 64) ?_
      rintro u h4 ⟨P4, hF4⟩
      try simp (maxSteps := 4000000) (disch := first | assumption | omega | (simp only [push_next, put_next, empty_next, List.length_cons, List.length_nil] <;> omega) | exact _root_.id rfl | exact _root_.id (fun _ => rfl) | fail) only [↓pre, post, Int.reduceEq, Int.reduceLT, Int.reduceLE, Int.reduceAdd, Int.reduceSub, Int.reduceMul, Int.reduceNeg, Nat.reduceLT, Nat.reduceSub, Nat.reduceMul, Nat.reduceAdd, Nat.reduceLeDiff, reduceIte, reduceCtorEq, Nat.reduceEqDiff]
      repeat' (first
        | (refine ifP_pos (by first | assumption | omega) ?_ <;> try simp (maxSteps := 4000000) (disch := first | assumption | omega | (simp only [push_next, put_next, empty_next, List.length_cons, List.length_nil] <;> omega) | exact _root_.id rfl | exact _root_.id (fun _ => rfl) | fail) only [↓pre, post, Int.reduceEq, Int.reduceLT, Int.reduceLE, Int.reduceAdd, Int.reduceSub, Int.reduceMul, Int.reduceNeg, Nat.reduceLT, Nat.reduceSub, Nat.reduceMul, Nat.reduceAdd, Nat.reduceLeDiff, reduceIte, reduceCtorEq, Nat.reduceEqDiff])
        | (refine ifP_neg (by first | assumption | omega) ?_ <;> try simp (maxSteps := 4000000) (disch := first | assumption | omega | (simp only [push_next, put_next, empty_next, List.length_cons, List.length_nil] <;> omega) | exact _root_.id rfl | exact _root_.id (fun _ => rfl) | fail) only [↓pre, post, Int.reduceEq, Int.reduceLT, Int.reduceLE, Int.reduceAdd, Int.reduceSub, Int.reduceMul, Int.reduceNeg, Nat.reduceLT, Nat.reduceSub, Nat.reduceMul, Nat.reduceAdd, Nat.reduceLeDiff, reduceIte, reduceCtorEq, Nat.reduceEqDiff])
        | (refine ifP_intro (fun hyp => ?_) (fun hyp => ?_) <;> first | simp (maxSteps := 4000000) (disch := first | assumption | omega | (simp only [push_next, put_next, empty_next, List.length_cons, List.length_nil] <;> omega) | exact _root_.id rfl | exact _root_.id (fun _ => rfl) | fail) only [↓pre, post, Int.reduceEq, Int.reduceLT, Int.reduceLE, Int.reduceAdd, Int.reduceSub, Int.reduceMul, Int.reduceNeg, Nat.reduceLT, Nat.reduceSub, Nat.reduceMul, Nat.reduceAdd, Nat.reduceLeDiff, reduceIte, reduceCtorEq, Nat.reduceEqDiff, eq_false hyp] | simp (maxSteps := 4000000) (disch := first | assumption | omega | (simp only [push_next, put_next, empty_next, List.length_cons, List.length_nil] <;> omega) | exact _root_.id rfl | exact _root_.id (fun _ => rfl) | fail) only [↓pre, post, Int.reduceEq, Int.reduceLT, Int.reduceLE, Int.reduceAdd, Int.reduceSub, Int.reduceMul, Int.reduceNeg, Nat.reduceLT, Nat.reduceSub, Nat.reduceMul, Nat.reduceAdd, Nat.reduceLeDiff, reduceIte, reduceCtorEq, Nat.reduceEqDiff, eq_true hyp] | skip))
      exact lp_n ⟨_, by omega, j + 1, _, _, _, _, _, _, rfl, by omega, by push_cast; rfl, P4, hF3.trans hF4, T.step _, by simp only [setAll, pickF, if_neg hjp] at hS; exact hS⟩
  · have : j = l.length := by omega
    subst this
    rw [List.drop_length] at hS
    simp only [setAll] at hS
    subst hS
    have P3' := P3
    obtain ⟨ok3, ⟨lv, l1, l2⟩, blk, pe, wo, ne⟩ := P3
    have T1 := P3'.top (D' := { s := mountS (pickF picks) D.s 0, off := false, left := D.left }) (lv := lv) ⟨ok3.pos, ok3.len, ok3.left⟩ rfl l1
    have T := T1.top (D' := D.mount picks) (lv := -1) ⟨by simpa [Dsk.mount] using ok3.pos, by simpa [Dsk.mount] using ok3.len, by simp [Dsk.mount]⟩ rfl (by simp [LeftP, Dsk.mount])
    try simp (maxSteps := 4000000) (disch := first | assumption | omega | (simp only [push_next, put_next, empty_next, List.length_cons, List.length_nil] <;> omega) | exact _root_.id rfl | exact _root_.id (fun _ => rfl) | fail) only [↓pre, post, Int.reduceEq, Int.reduceLT, Int.reduceLE, Int.reduceAdd, Int.reduceSub, Int.reduceMul, Int.reduceNeg, Nat.reduceLT, Nat.reduceSub, Nat.reduceMul, Nat.reduceAdd, Nat.reduceLeDiff, reduceIte, reduceCtorEq, Nat.reduceEqDiff, l2]
    repeat' (first
      | (refine ifP_pos (by first | assumption | omega) ?_ <;> try simp (maxSteps := 4000000) (disch := first | assumption | omega | (simp only [push_next, put_next, empty_next, List.length_cons, List.length_nil] <;> omega) | exact _root_.id rfl | exact _root_.id (fun _ => rfl) | fail) only [↓pre, post, Int.reduceEq, Int.reduceLT, Int.reduceLE, Int.reduceAdd, Int.reduceSub, Int.reduceMul, Int.reduceNeg, Nat.reduceLT, Nat.reduceSub, Nat.reduceMul, Nat.reduceAdd, Nat.reduceLeDiff, reduceIte, reduceCtorEq, Nat.reduceEqDiff, l2])
      | (refine ifP_neg (by first | assumption | omega) ?_ <;> try simp (maxSteps := 4000000) (disch := first | assumption | omega | (simp only [push_next, put_next, empty_next, List.length_cons, List.length_nil] <;> omega) | exact _root_.id rfl | exact _root_.id (fun _ => rfl) | fail) only [↓pre, post, Int.reduceEq, Int.reduceLT, Int.reduceLE, Int.reduceAdd, Int.reduceSub, Int.reduceMul, Int.reduceNeg, Nat.reduceLT, Nat.reduceSub, Nat.reduceMul, Nat.reduceAdd, Nat.reduceLeDiff, reduceIte, reduceCtorEq, Nat.reduceEqDiff, l2])
      | (refine ifP_intro (fun hyp => ?_) (fun hyp => ?_) <;> first | simp (maxSteps := 4000000) (disch := first | assumption | omega | (simp only [push_next, put_next, empty_next, List.length_cons, List.length_nil] <;> omega) | exact _root_.id rfl | exact _root_.id (fun _ => rfl) | fail) only [↓pre, post, Int.reduceEq, Int.reduceLT, Int.reduceLE, Int.reduceAdd, Int.reduceSub, Int.reduceMul, Int.reduceNeg, Nat.reduceLT, Nat.reduceSub, Nat.reduceMul, Nat.reduceAdd, Nat.reduceLeDiff, reduceIte, reduceCtorEq, Nat.reduceEqDiff, l2, eq_false hyp] | simp (maxSteps := 4000000) (disch := first | assumption | omega | (simp only [push_next, put_next, empty_next, List.length_cons, List.length_nil] <;> omega) | exact _root_.id rfl | exact _root_.id (fun _ => rfl) | fail) only [↓pre, post, Int.reduceEq, Int.reduceLT, Int.reduceLE, Int.reduceAdd, Int.reduceSub, Int.reduceMul, Int.reduceNeg, Nat.reduceLT, Nat.reduceSub, Nat.reduceMul, Nat.reduceAdd, Nat.reduceLeDiff, reduceIte, reduceCtorEq, Nat.reduceEqDiff, l2, eq_true hyp] | skip))
    exact ⟨T, hF3.trans ((fr_d ..).trans (fr_d ..))⟩
end Go.Proofs.Ytjofjgflcogklaa
