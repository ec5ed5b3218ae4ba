/-
  The plain law of lines: the scan gives just the lines that the reference model prices.
-/
import Derived.Test.YtcammfdljiingaaLbC
set_option linter.unusedSimpArgs false
set_option linter.unusedVariables false
set_option maxHeartbeats 4000000
namespace Go.Proofs.Ytcammfdljiingaa
open Go Go.Abs

/-- A line to an end, if there is one. -/
def lineAt (l : List Item) (w : Int) (a b : Nat) : Option (Nat × Int × Int) := if lineOk l w a b then some (b, natS l a b, costN l w a b) else none

theorem ws_mono {l : List Item} (hv : valid l) {a : Nat} {m : Nat} : ∀ n, m ≤ n → a + n ≤ l.length → ws l a m ≤ ws l a n
  | 0, h, _ => by rw [Nat.le_zero.1 h]; exact Int.le_refl _
  | n + 1, h, hl => by
    rcases Nat.lt_or_ge m (n + 1) with h' | h'
    · have ih := ws_mono hv (a := a) (m := m) n (by omega) (by omega)
      have ho := hv.2.2.2 (a + n) (by omega)
      unfold okItem at ho
      simp only [ws]
      split <;> omega
    · rw [show m = n + 1 by omega]; exact Int.le_refl _

theorem natS_ge {l : List Item} (hv : valid l) {a b i : Nat} (h1 : a ≤ i) (h2 : i < b) (h3 : b ≤ l.length) : ws l a (i - a) ≤ natS l a b := by
  have h := ws_mono hv (a := a) (m := i - a) (b - 1 - a) (by omega) (by omega)
  have ho := hv.2.2.2 (b - 1) (by omega)
  unfold okItem at ho
  unfold natS
  split <;> omega

theorem scan_eq {l : List Item} {w : Int} {a : Nat} (hv : valid l) (hst : starts l a) : ∀ (k i : Nat), k = l.length - i → a ≤ i → (∀ j, j < i → a ≤ j → (nth l j).kind ≠ 3) →
    scan l w i (ws l a (i - a)) = (List.range' (i + 1) k).filterMap (lineAt l w a)
  | 0, i, hk, hai, hno => by rw [scan_end (by omega)]; rfl
  | k + 1, i, hk, hai, hno => by
    have hi : i < l.length := by omega
    have ho := hv.2.2.2 i hi
    have ih := scan_eq (w := w) hv hst k (i + 1) (by omega) (by omega)
    have ho' := ho
    unfold okItem at ho
    have hn : i + 1 - a = (i - a) + 1 := by omega
    have hai' : a + (i - a) = i := by omega
    have hb1 : i + 1 - 1 = i := by omega
    have nx : ∀ j, (nth l i).kind ≠ 3 → j < i + 1 → a ≤ j → (nth l j).kind ≠ 3 := fun j h3 hj ha => by
      by_cases e : j = i
      · subst e; exact h3
      · exact hno j (by omega) ha
    have stop : (∀ b, i + 2 ≤ b → b ≤ l.length → ¬ lineOk l w a b) → (List.range' (i + 1 + 1) k).filterMap (lineAt l w a) = [] := fun h => by
      rw [List.filterMap_eq_nil_iff]
      intro b hb
      rw [List.mem_range'_1] at hb
      rw [lineAt, if_neg (h b (by omega) (by omega))]
    rw [List.range'_succ, List.filterMap_cons]
    have hnat : natS l a (i + 1) = ws l a (i - a) + (if (nth l i).kind = 2 then (nth l i).width else 0) := by rw [natS, hb1]
    rcases (by omega : (nth l i).kind = 0 ∨ (nth l i).kind = 1 ∨ (nth l i).kind = 2 ∨ (nth l i).kind = 3) with k0 | k1 | k2 | k3
    · have hw : ws l a (i + 1 - a) = ws l a (i - a) + (nth l i).width := by rw [hn, ws, hai', if_neg (by omega)]
      have h0 : lineAt l w a (i + 1) = none := if_neg fun h => h.2.2.2.1 (by rw [hb1]; exact k0)
      rw [scan_box hi k0, ← hw, ih (fun j => nx j (by omega)), h0]
    · have hw : ws l a (i + 1 - a) = ws l a (i - a) + (nth l i).width := by rw [hn, ws, hai', if_neg (by omega)]
      rw [if_neg (by omega), Int.add_zero] at hnat
      by_cases hc : w < ws l a (i - a)
      · have h0 : lineAt l w a (i + 1) = none := if_neg fun h => by have := h.2.2.2.2.2; omega
        rw [scan_glue_no hi k1 hc, h0, stop]
        intro b hb1 hb2 h
        have h1 := natS_ge hv hai (by omega : i < b) hb2
        have := h.2.2.2.2.2; omega
      · have h0 : lineAt l w a (i + 1) = some (i + 1, ws l a (i - a), (w - ws l a (i - a)) * (w - ws l a (i - a))) := by
          rw [lineAt, if_pos ⟨by omega, by omega, hst, by rw [hb1]; omega, fun j hj ha => hno j (by omega) ha, by omega⟩, hnat, costN, hb1, if_neg (by omega), hnat, show (nth l i).cost = 0 by omega, Int.add_zero]
        rw [scan_glue hi k1 hc, ← hw, ih (fun j => nx j (by omega)), h0]
    · have hw : ws l a (i + 1 - a) = ws l a (i - a) := by rw [hn, ws, hai', if_pos k2, Int.add_zero]
      rw [if_pos k2] at hnat
      by_cases hc : ws l a (i - a) + (nth l i).width ≤ w
      · have h0 : lineAt l w a (i + 1) = some (i + 1, ws l a (i - a) + (nth l i).width, (w - (ws l a (i - a) + (nth l i).width)) * (w - (ws l a (i - a) + (nth l i).width)) + (nth l i).cost) := by
          rw [lineAt, if_pos ⟨by omega, by omega, hst, by rw [hb1]; omega, fun j hj ha => hno j (by omega) ha, by omega⟩, hnat, costN, hb1, if_neg (by omega), hnat]
        rw [scan_hyph hi k2 hc, h0]
        have ih := ih (fun j => nx j (by omega))
        rw [hw] at ih
        rw [ih]
      · have h0 : lineAt l w a (i + 1) = none := if_neg fun h => by have := h.2.2.2.2.2; omega
        have ih := ih (fun j => nx j (by omega))
        rw [hw] at ih
        rw [scan_hyph_no hi k2 hc, h0, ih]
    · rw [if_neg (by omega), Int.add_zero] at hnat
      have hstop := stop fun b h1 h2 h => h.2.2.2.2.1 i (by omega) hai k3
      by_cases hc : ws l a (i - a) ≤ w
      · have h0 : lineAt l w a (i + 1) = some (i + 1, ws l a (i - a), 0) := by
          rw [lineAt, if_pos ⟨by omega, by omega, hst, by rw [hb1]; omega, fun j hj ha => hno j (by omega) ha, by omega⟩, hnat, costN, hb1, if_pos k3]
        rw [scan_last hi k3 hc, h0, hstop]
      · have h0 : lineAt l w a (i + 1) = none := if_neg fun h => by have := h.2.2.2.2.2; omega
        rw [scan_last_no hi k3 hc, h0, hstop]

/-- All lines from a start, by their ends. -/
def linesOf (l : List Item) (w : Int) (a : Nat) : List (Nat × Int × Int) := (List.range' (a + 1) (l.length - a)).filterMap (lineAt l w a)

theorem scan_lines {l : List Item} {w : Int} {a : Nat} (hv : valid l) (hst : starts l a) : scan l w a 0 = linesOf l w a := by
  have := scan_eq (w := w) hv hst (l.length - a) a rfl (Nat.le_refl _) (by intros; omega)
  rw [Nat.sub_self] at this
  exact this

theorem lastC_range (l : List Item) (w : Int) (a : Nat) (to : Int) : ∀ (k s : Nat) (c : Int), ((List.range' s k).filterMap (lineAt l w a)).foldl (fun c x => if (x.1 : Int) = to then x.2.2 else c) c =
    if (s : Int) ≤ to ∧ to < s + k ∧ lineOk l w a to.toNat then costN l w a to.toNat else c
  | 0, s, c => by rw [if_neg (by omega)]; rfl
  | k + 1, s, c => by
    rw [List.range'_succ, List.filterMap_cons]
    have ih := lastC_range l w a to k (s + 1)
    by_cases hl : lineOk l w a s
    · rw [lineAt, if_pos hl]
      simp only [List.foldl_cons]
      rw [ih]
      by_cases hs : (s : Int) = to
      · subst hs
        rw [if_pos rfl, if_neg (by omega), if_pos ⟨by omega, by omega, by simpa using hl⟩]
        simp
      · rw [if_neg hs]
        by_cases hc : ((s + 1 : Nat) : Int) ≤ to ∧ to < ((s + 1 : Nat) : Int) + k ∧ lineOk l w a to.toNat
        · rw [if_pos hc, if_pos ⟨by omega, by omega, hc.2.2⟩]
        · rw [if_neg hc, if_neg (fun h => hc ⟨by omega, by omega, h.2.2⟩)]
    · rw [lineAt, if_neg hl]
      simp only
      rw [ih]
      by_cases hc : ((s + 1 : Nat) : Int) ≤ to ∧ to < ((s + 1 : Nat) : Int) + k ∧ lineOk l w a to.toNat
      · rw [if_pos hc, if_pos ⟨by omega, by omega, hc.2.2⟩]
      · rw [if_neg hc, if_neg]
        intro h
        by_cases hs : (s : Int) = to
        · subst hs; exact hl (by simpa using h.2.2)
        · exact hc ⟨by omega, by omega, h.2.2⟩

theorem cost_eq (l : List Item) (w a to : Int) : costP l w a to = costR l w a to := by
  unfold costP costR
  by_cases hr : widthOk w ∧ valid l
  · by_cases ha : 0 ≤ a ∧ a ≤ (l.length : Int) - 1
    · by_cases hs : starts l a.toNat
      · rw [if_pos ⟨hr, ha, hs⟩, scan_lines hr.2 hs, linesOf, lastC, lastC_range]
        by_cases hl : 0 ≤ a ∧ 0 ≤ to ∧ lineOk l w a.toNat to.toNat
        · have h1 := hl.2.2.1
          have h2 := hl.2.2.2.1
          rw [if_pos ⟨by omega, by omega, hl.2.2⟩, if_pos ⟨hr, hl⟩]
        · rw [if_neg (fun h => hl ⟨ha.1, by omega, h.2.2⟩), if_neg (fun h => hl h.2)]
      · rw [if_neg (fun h => hs h.2.2), if_neg (fun h => hs h.2.2.2.2.2.1)]
    · rw [if_neg (fun h => ha h.2.1), if_neg (fun h => ha ⟨h.2.1, by have h1 := h.2.2.2.1; have h2 := h.2.2.2.2.1; omega⟩)]
  · rw [if_neg (fun h => hr h.1), if_neg (fun h => hr h.1)]

end Go.Proofs.Ytcammfdljiingaa
