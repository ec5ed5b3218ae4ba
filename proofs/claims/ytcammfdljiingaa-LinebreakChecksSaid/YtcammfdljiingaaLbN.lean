/-
  The plain law of the best lines: two ways to reckon them give one answer.
-/
import Derived.Test.YtcammfdljiingaaLbI
set_option linter.unusedSimpArgs false
set_option linter.unusedVariables false
set_option maxHeartbeats 8000000
namespace Go.Proofs.Ytcammfdljiingaa
open Go Go.Abs

/-- The cost of a step from a break to an end. -/
def edge (l : List Item) (w : Int) (p b : Nat) : Option Int := if lineOk l w (skip l p) b then some (costN l w (skip l p) b) else none

/-- The cost of lines that follow one another, by their ends. -/
def chain (l : List Item) (w : Int) : Nat → List Nat → Option Int
  | _, [] => some 0
  | p, b :: bs => match edge l w p b, chain l w b bs with
    | some c, some d => some (c + d)
    | _, _ => none
def endOf : Nat → List Nat → Nat
  | p, [] => p
  | _, b :: bs => endOf b bs

theorem edge_lt {l : List Item} {w : Int} {p b : Nat} {c : Int} (h : edge l w p b = some c) : p < b ∧ b ≤ l.length := by
  unfold edge at h
  split at h
  · rename_i hl
    have := skip_ge (l := l) (p := p)
    exact ⟨by have := hl.1; omega, hl.2.1⟩
  · simp at h

theorem costN_nonneg {l : List Item} {w : Int} (hv : valid l) {a b : Nat} (h : lineOk l w a b) : 0 ≤ costN l w a b := by
  have ho := hv.2.2.2 (b - 1) (by have := h.1; have := h.2.1; omega)
  unfold okItem at ho
  unfold costN
  split
  · omega
  · have : 0 ≤ (w - natS l a b) * (w - natS l a b) := by
      generalize w - natS l a b = d
      rcases Int.le_total 0 d with h | h
      · exact Int.mul_nonneg h h
      · have := Int.mul_nonneg (a := -d) (b := -d) (by omega) (by omega)
        rwa [Int.neg_mul_neg] at this
    omega

theorem edge_nonneg {l : List Item} {w : Int} (hv : valid l) {p b : Nat} {c : Int} (h : edge l w p b = some c) : 0 ≤ c := by
  unfold edge at h
  split at h
  · rename_i hl; simp at h; subst h; exact costN_nonneg hv hl
  · simp at h

/-- Lists of numbers of one length, by their letters. -/
def lexLt : List Nat → List Nat → Prop
  | a :: us, b :: bs => a < b ∨ (a = b ∧ lexLt us bs)
  | _, _ => False
instance lexDec : (us bs : List Nat) → Decidable (lexLt us bs)
  | [], _ => isFalse (by simp [lexLt])
  | _ :: _, [] => isFalse (by simp [lexLt])
  | a :: us, b :: bs => by
    have := lexDec us bs
    unfold lexLt; infer_instance

theorem lexLt_irrefl : ∀ us, ¬ lexLt us us
  | [] => by simp [lexLt]
  | a :: us => by
    rintro (h | ⟨_, h⟩)
    · omega
    · exact lexLt_irrefl us h
theorem lexLt_trans : ∀ {us bs cs : List Nat}, lexLt us bs → lexLt bs cs → lexLt us cs
  | [], _, _, h, _ => h.elim
  | _ :: _, [], _, h, _ => h.elim
  | _ :: _, _ :: _, [], _, h => h.elim
  | a :: us, b :: bs, c :: cs, h1, h2 => by
    rcases h1 with h1 | ⟨h1, h1'⟩ <;> rcases h2 with h2 | ⟨h2, h2'⟩
    · exact .inl (by omega)
    · exact .inl (by omega)
    · exact .inl (by omega)
    · exact .inr ⟨by omega, lexLt_trans h1' h2'⟩
theorem lexLt_total : ∀ {us bs : List Nat}, us.length = bs.length → ¬ lexLt us bs → ¬ lexLt bs us → us = bs
  | [], [], _, _, _ => rfl
  | [], _ :: _, h, _, _ => by simp at h
  | _ :: _, [], h, _, _ => by simp at h
  | a :: us, b :: bs, h, h1, h2 => by
    have e : a = b := by
      rcases Nat.lt_trichotomy a b with h' | h' | h'
      · exact (h1 (.inl h')).elim
      · exact h'
      · exact (h2 (.inl h')).elim
    subst e
    rw [lexLt_total (by simpa using h) (fun h' => h1 (.inr ⟨rfl, h'⟩)) (fun h' => h2 (.inr ⟨rfl, h'⟩))]
theorem lexLt_append : ∀ {us bs : List Nat} (cs ds : List Nat), lexLt us bs → lexLt (us ++ cs) (bs ++ ds)
  | [], _, _, _, h => h.elim
  | _ :: _, [], _, _, h => h.elim
  | a :: us, b :: bs, cs, ds, h => h.elim .inl fun ⟨h1, h2⟩ => .inr ⟨h1, lexLt_append cs ds h2⟩
theorem lexLt_append_left : ∀ (us : List Nat) {cs ds : List Nat}, lexLt cs ds → lexLt (us ++ cs) (us ++ ds)
  | [], _, _, h => h
  | a :: us, _, _, h => .inr ⟨rfl, lexLt_append_left us h⟩

/-- What is to be preferred: a lesser cost, fewer lines, earlier ends. -/
def pref (c : Int) (us : List Nat) (d : Int) (bs : List Nat) : Prop := c < d ∨ (c = d ∧ (us.length < bs.length ∨ (us.length = bs.length ∧ lexLt us bs)))
instance (c : Int) (us : List Nat) (d : Int) (bs : List Nat) : Decidable (pref c us d bs) := by unfold pref; infer_instance
theorem pref_total {c d : Int} {us bs : List Nat} (h1 : ¬ pref c us d bs) (h2 : ¬ pref d bs c us) : c = d ∧ us = bs := by
  unfold pref at h1 h2
  have hc : c = d := by omega
  subst hc
  have hl : us.length = bs.length := by omega
  exact ⟨rfl, lexLt_total hl (fun h => h1 (.inr ⟨rfl, .inr ⟨hl, h⟩⟩)) (fun h => h2 (.inr ⟨rfl, .inr ⟨hl.symm, h⟩⟩))⟩
theorem pref_trans_not {c d e : Int} {us bs cs : List Nat} (h1 : ¬ pref c us d bs) (h2 : pref e cs d bs) : pref e cs c us := by
  unfold pref at *
  rcases Int.lt_trichotomy e c with h | h | h
  · exact .inl h
  · subst h
    right
    refine ⟨rfl, ?_⟩
    rcases Nat.lt_trichotomy cs.length us.length with h' | h' | h'
    · exact .inl h'
    · right
      refine ⟨h', ?_⟩
      rcases h2 with h2 | ⟨h2, h3⟩
      · omega
      · subst h2
        rcases h3 with h3 | ⟨h3, h4⟩
        · omega
        · by_cases hq : lexLt cs us
          · exact hq
          · by_cases hq2 : lexLt us cs
            · exact (h1 (.inr ⟨rfl, .inr ⟨by omega, lexLt_trans hq2 h4⟩⟩)).elim
            · have := lexLt_total h' hq hq2
              subst this
              exact (h1 (.inr ⟨rfl, .inr ⟨h3, h4⟩⟩)).elim
    · omega
  · omega

/-- The best way from a break to a break. -/
def Best (l : List Item) (w : Int) (p q : Nat) (c : Int) (bs : List Nat) : Prop :=
  chain l w p bs = some c ∧ endOf p bs = q ∧ ∀ d cs, chain l w p cs = some d → endOf p cs = q → ¬ pref d cs c bs

theorem Best.unique {l : List Item} {w : Int} {p q : Nat} {c d : Int} {bs cs : List Nat} (h1 : Best l w p q c bs) (h2 : Best l w p q d cs) : c = d ∧ bs = cs :=
  pref_total (h2.2.2 _ _ h1.1 h1.2.1) (h1.2.2 _ _ h2.1 h2.2.1)

theorem chain_append {l : List Item} {w : Int} : ∀ {p : Nat} {bs cs : List Nat}, chain l w p (bs ++ cs) = match chain l w p bs, chain l w (endOf p bs) cs with
    | some c, some d => some (c + d)
    | _, _ => none
  | p, [], cs => by
    simp only [List.nil_append, chain, endOf]
    cases chain l w p cs <;> simp
  | p, b :: bs, cs => by
    simp only [List.cons_append, chain, endOf, chain_append (p := b) (bs := bs) (cs := cs)]
    cases edge l w p b <;> cases chain l w b bs <;> cases chain l w (endOf b bs) cs <;> simp [Int.add_assoc]
theorem endOf_append : ∀ (p : Nat) (bs cs : List Nat), endOf p (bs ++ cs) = endOf (endOf p bs) cs
  | p, [], cs => rfl
  | p, b :: bs, cs => endOf_append b bs cs

end Go.Proofs.Ytcammfdljiingaa
