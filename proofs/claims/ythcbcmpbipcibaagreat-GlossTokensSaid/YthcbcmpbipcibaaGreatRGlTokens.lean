/-
  For all arguments the statement GlossTokens answers true, and leaves what it was given as it was.
-/
import Derived.Test.YthcbcmpbipcibaaGreatM06
set_option linter.unusedVariables false
namespace Go.Proofs.YthcbcmpbipcibaaGreat
open Go Go.Abs Go.ChangeShapes Go.WideShapes Go.ChangeAt Go.RowKit

attribute [local irreducible] okA

theorem glossTokens_args (xs : List AVal) (h : ShArgs Tryz.prog 5 [22, 22, 9] xs) : ∃ h', Gives F 3 xs Heap.empty (.bool true) h' := by
  obtain _ | ⟨a0, b0, h⟩ := h
  obtain _ | ⟨a1, b1, h⟩ := h
  obtain _ | ⟨a2, b2, h⟩ := h
  obtain _ | _ := h
  obtain ⟨l0, tk0, rfl, u0, v0, w0⟩ := argL (n := 3) a0 b0
  obtain ⟨l1, tk1, rfl, u1, v1, w1⟩ := argL (n := 3) a1 b1
  obtain ⟨s2, rfl, w2⟩ := argT (n := 4) a2 b2
  obtain ⟨r, h', c, rfl⟩ := tokens_run w0 w1 u0 u1 s2 w2
  exact ⟨h', c⟩

set_option maxRecDepth 100000 in
theorem glossTokens_lifted (os : Os) (started : os.Started) (H : Type) (enc : TypeId × Value → H) :
    ReturnsInHanded {} Tryz.checked os 3 .any (Rows.glossTokensSpec.pre6 enc Tryz.prog Tryz.f3 Rows.glossTokensRow.domain false) (Rows.glossTokensSpec.post enc Tryz.prog Tryz.f3 false true false false) := by
  refine returnsInHanded_of_change (C := Tryz.checked) own started (by kernel_rfl) Tryz.func3
    (ChangeSpec.witness6 (enc := enc) (C := Tryz.checked) false ⟨#[], #[.slice none 0 0, .slice none 0 0, .string .empty], []⟩ 8 (by kernel_rfl) (by kernel_rfl) (by kernel_rfl) (by kernel_rfl)) ?_
  intro W base args ds gs before hval hW hcnd _
  refine row_calls (P := Tryz.prog) (n := 5) (ts := [22, 22, 9]) (tb := 4) (fun g cs e => by simp [hints] at e) mixed table laidOut (congrArg Array.toList Tryz.params3) (fun t ht => ?_) (fun t ht => ?_) rfl Tryz.underlying4 rfl (fun H ds hl => ?_) glossTokens_args base args ds gs before hval hW
  · simp only [List.mem_cons, List.not_mem_nil, or_false] at ht
    rcases ht with rfl | rfl | rfl
    · exact readL
    · exact readL
    · exact readT
  · simp only [List.mem_cons, List.not_mem_nil, or_false] at ht
    rcases ht with rfl | rfl | rfl
    · exact shapeL
    · exact shapeL
    · exact shapeT
  · match ds, hl with
    | [d0, d1, d2], _ => rfl

theorem glossTokens : Rows.GlossTokensSaid :=
  OpenClaim.holds_of_wide 3 Tryz.f3 rfl rfl rfl rfl rfl rfl rfl ⟨rfl, rfl, rfl, rfl, rfl⟩ rfl rfl rfl rfl rfl (by kernel_rfl) Tryz.func3 (by kernel_rfl)
    (of_decide_eq_true (by kernel_rfl)) (by unfold Func.isWrapper; first | (rw [if_pos (by decide +kernel)]; kernel_rfl) | (rw [if_neg (by decide +kernel)]; exact ⟨rfl, rfl⟩))
    (fun os started H enc _ => glossTokens_lifted os started H enc)

end Go.Proofs.YthcbcmpbipcibaaGreat

