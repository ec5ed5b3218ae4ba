/-
  For all arguments the statement DiskRefusesSizes answers true, and leaves what it was given as it was.
-/
import Derived.Test.YtjofjgflcogklaaM06
import Derived.Test.YtjofjgflcogklaaM07
set_option linter.unusedVariables false
namespace Go.Proofs.Ytjofjgflcogklaa
open Go Go.Abs Go.ChangeShapes Go.WideShapes Go.ChangeAt Go.RowKit

attribute [local irreducible] okA

theorem diskRefusesSizes_args (xs : List AVal) (h : ShArgs Try.prog 5 [3, 3, 9] xs) : ∃ h', Gives F 4 xs Heap.empty (.bool true) h' := by
  obtain _ | ⟨a0, b0, h⟩ := h
  obtain _ | ⟨a1, b1, h⟩ := h
  obtain _ | ⟨a2, b2, h⟩ := h
  obtain _ | _ := h
  obtain ⟨z0, rfl, w0⟩ := arg3 (n := 4) a0 b0
  obtain ⟨z1, rfl, w1⟩ := arg3 (n := 4) a1 b1
  obtain ⟨s2, rfl, w2⟩ := arg9 (n := 4) a2 b2
  obtain ⟨r, h', c, rfl⟩ := refuses_c w0 w1 w2
  exact ⟨h', c⟩

set_option maxRecDepth 100000 in
theorem diskRefusesSizes_lifted (os : Os) (started : os.Started) (H : Type) (enc : TypeId × Value → H) :
    ReturnsInHanded {} Try.checked os 4 .any (Rows.diskRefusesSizesSpec.pre6 enc Try.prog Try.f4 Rows.diskRefusesSizesRow.domain false) (Rows.diskRefusesSizesSpec.post enc Try.prog Try.f4 false true false false) := by
  refine returnsInHanded_of_change (C := Try.checked) own started (by kernel_rfl) Try.func4
    (ChangeSpec.witness6 (enc := enc) (C := Try.checked) false ⟨#[], #[.int .i64 0, .int .i64 0, .string .empty], []⟩ 8 (by kernel_rfl) (by kernel_rfl) (by kernel_rfl) (by kernel_rfl)) ?_
  intro W base args ds gs before hval hW hcnd _
  refine row_calls (P := Try.prog) (n := 5) (ts := [3, 3, 9]) (tb := 4) mixed table laidOut (congrArg Array.toList Try.params4) (fun t ht => ?_) (fun t ht => ?_) rfl Try.underlying4 rfl (fun H ds hl => ?_) diskRefusesSizes_args base args ds gs before hval hW
  · simp only [List.mem_cons, List.not_mem_nil, or_false] at ht
    rcases ht with rfl | rfl | rfl
    · exact read3
    · exact read3
    · exact read9
  · simp only [List.mem_cons, List.not_mem_nil, or_false] at ht
    rcases ht with rfl | rfl | rfl
    · exact shape3
    · exact shape3
    · exact shape9
  · match ds, hl with
    | [d0, d1, d2], _ => rfl

theorem diskRefusesSizes : Rows.DiskRefusesSizesSaid :=
  OpenClaim.holds_of_wide 4 Try.f4 rfl rfl rfl rfl rfl rfl rfl ⟨rfl, rfl, rfl, rfl, rfl⟩ rfl rfl rfl rfl rfl (by kernel_rfl) Try.func4 (by kernel_rfl)
    (of_decide_eq_true (by kernel_rfl)) (by unfold Func.isWrapper; first | (rw [if_pos (by decide +kernel)]; kernel_rfl) | (rw [if_neg (by decide +kernel)]; exact ⟨rfl, rfl⟩))
    (fun os started H enc _ => diskRefusesSizes_lifted os started H enc)

end Go.Proofs.Ytjofjgflcogklaa
