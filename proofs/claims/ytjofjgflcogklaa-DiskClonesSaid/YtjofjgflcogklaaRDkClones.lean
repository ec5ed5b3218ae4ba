/-
  For all arguments the statement DiskClones answers true, and leaves what it was given as it was.
-/
import Derived.Test.YtjofjgflcogklaaM06
import Derived.Test.YtjofjgflcogklaaM08
set_option linter.unusedVariables false
namespace Go.Proofs.Ytjofjgflcogklaa
open Go Go.Abs Go.ChangeShapes Go.WideShapes Go.ChangeAt Go.RowKit

attribute [local irreducible] okA

theorem diskClones_args (xs : List AVal) (h : ShArgs Try.prog 5 [3, 22, 22, 22] xs) : ∃ h', Gives F 8 xs Heap.empty (.bool true) h' := by
  obtain _ | ⟨a0, b0, h⟩ := h
  obtain _ | ⟨a1, b1, h⟩ := h
  obtain _ | ⟨a2, b2, h⟩ := h
  obtain _ | ⟨a3, b3, h⟩ := h
  obtain _ | _ := h
  obtain ⟨z0, rfl, w0⟩ := arg3 (n := 4) a0 b0
  obtain ⟨l1, tk1, rfl, w1⟩ := arg22 (n := 1) a1 b1
  obtain ⟨l2, tk2, rfl, w2⟩ := arg22 (n := 1) a2 b2
  obtain ⟨l3, tk3, rfl, w3⟩ := arg22 (n := 1) a3 b3
  obtain ⟨r, h', c, rfl⟩ := clones_c w0 w1 w2 w3
  exact ⟨h', c⟩

set_option maxRecDepth 100000 in
theorem diskClones_lifted (os : Os) (started : os.Started) (H : Type) (enc : TypeId × Value → H) :
    ReturnsInHanded {} Try.checked os 8 .any (Rows.diskClonesSpec.pre6 enc Try.prog Try.f8 Rows.diskClonesRow.domain false) (Rows.diskClonesSpec.post enc Try.prog Try.f8 false true false false) := by
  refine returnsInHanded_of_change (C := Try.checked) own started (by kernel_rfl) Try.func8
    (ChangeSpec.witness6 (enc := enc) (C := Try.checked) false ⟨#[], #[.int .i64 0, .slice none 0 0, .slice none 0 0, .slice none 0 0], []⟩ 8 (by kernel_rfl) (by kernel_rfl) (by kernel_rfl) (by kernel_rfl)) ?_
  intro W base args ds gs before hval hW hcnd _
  refine row_calls (P := Try.prog) (n := 5) (ts := [3, 22, 22, 22]) (tb := 4) mixed table laidOut (congrArg Array.toList Try.params8) (fun t ht => ?_) (fun t ht => ?_) rfl Try.underlying4 rfl (fun H ds hl => ?_) diskClones_args base args ds gs before hval hW
  · simp only [List.mem_cons, List.not_mem_nil, or_false] at ht
    rcases ht with rfl | rfl | rfl | rfl
    · exact read3
    · exact read22
    · exact read22
    · exact read22
  · simp only [List.mem_cons, List.not_mem_nil, or_false] at ht
    rcases ht with rfl | rfl | rfl | rfl
    · exact shape3
    · exact shape22
    · exact shape22
    · exact shape22
  · match ds, hl with
    | [d0, d1, d2, d3], _ => rfl

theorem diskClones : Rows.DiskClonesSaid :=
  OpenClaim.holds_of_wide 8 Try.f8 rfl rfl rfl rfl rfl rfl rfl ⟨rfl, rfl, rfl, rfl, rfl⟩ rfl rfl rfl rfl rfl (by kernel_rfl) Try.func8 (by kernel_rfl)
    (of_decide_eq_true (by kernel_rfl)) (by unfold Func.isWrapper; first | (rw [if_pos (by decide +kernel)]; kernel_rfl) | (rw [if_neg (by decide +kernel)]; exact ⟨rfl, rfl⟩))
    (fun os started H enc _ => diskClones_lifted os started H enc)

end Go.Proofs.Ytjofjgflcogklaa
