/-
  The documented example, reckoned by the kernel on the abstract machine.
-/
import Derived.Test.YtcammfdljiingaaLbTab
namespace Go.Proofs.Ytcammfdljiingaa
open Go Go.Abs

def isTrue : Option Res → Bool
  | some (.val (.bool true) _) => true
  | _ => false

theorem isTrue_some {r : Option Res} (h : isTrue r = true) : ∃ h', r = some (.val (.bool true) h') := by
  unfold isTrue at h
  split at h
  · exact ⟨_, rfl⟩
  · simp at h

theorem lives_run : isTrue (run F 400 (.call 19 [] Heap.empty)) = true := by kernel_rfl

end Go.Proofs.Ytcammfdljiingaa
