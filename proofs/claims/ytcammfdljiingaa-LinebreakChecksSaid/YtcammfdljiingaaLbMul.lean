/-
  bits.Mul of one and a small number, reckoned by the kernel.
-/
import Derived.Test.YtcammfdljiingaaLbTab
import Derived.Test.YtcammfdljiingaaAbsWP
set_option linter.unusedVariables false
namespace Go.Proofs.Ytcammfdljiingaa
open Go Go.Abs

def mulOk (n : Nat) : Bool := match run F 60 (.call 55 [.int .u64 1, .int .u64 n] Heap.empty) with
  | some (.val (.tup [.int .u64 a, .int .u64 b]) _) => a == 0 && b == n
  | _ => false
theorem mul_all : (List.range 201).all mulOk = true := by kernel_rfl
theorem mul_v {n : Nat} (h : n ≤ 200) : PV F 55 [.int .u64 1, .int .u64 n] = some (.tup [.int .u64 0, .int .u64 n]) := by
  have := List.all_eq_true.1 mul_all n (by rw [List.mem_range]; omega)
  unfold mulOk at this
  split at this
  · rename_i a b h' e
    simp only [Bool.and_eq_true, beq_iff_eq] at this
    obtain ⟨rfl, rfl⟩ := this
    exact PV_of (gives_mk e) rfl
  · simp at this

end Go.Proofs.Ytcammfdljiingaa
