/-
  No cell of these rows narrows 'for every input' (looked for: loops, veiled, ifaces, maps, wideKeys, modest, calm, conditions, laid).
  DERIVED. THE GIVEN ROWS OF THIS SEAT. 7 by the template 'for every input the law returns true; each argument reads behind the call as it read before'; 0 by the template 'total and deterministic' (their statements: YtcammfdljiingaaTotals.lean).
  GIVEN WITH THE SEED: the statements are not yours to turn. If you find one false, say at which input.
  Laid BY PROGRAM, IN A SANDBOX (cutbox-rows.mjs): the forced cells as the released guide's own fill.sh prints them over the translation 6fb644421ce69128… (all of the seat's roots in one cut). By AI agents, Wed Nov 11 2026. No macro, syntax, notation, axiom, sorry.
-/
import Derived.Test.YtcammfdljiingaaChecked
import GoSem.Claim
import GoSem.ClaimJoined
import GoSem.ClaimMapViews
import Derived.JoinedTies
import Derived.KernelRfl
namespace Go.Proofs.Ytcammfdljiingaa
/- THE CELL 'sum', in the pinned program and in every row, IS THE sha256 OF THE DUMP (.gsa) THAT YtcammfdljiingaaProg.lean LOADS. Nothing in Lean hashes anything: it is a label: what it is worth is what the hold of that sum in a sandbox is worth. -/
noncomputable def Try.pinned : Pinned := { name := "ytcammfdljiingaa", sum := "6fb644421ce6912858866b0e7e37217ae8293379fc4d6fb511855d3f2db5c5e9", checked := Try.checked }
namespace Rows
def none {H : Type} : Left H := { results := [], args := [] }

/-- 'wordbooklaw32.LinebreakBreaks': WHATEVER THE INPUT: true; the input reads as it did. -/
def linebreakBreaksSpec : ChangeSpec := { name := "linebreakBreaks", fn := fun _ => fun
  | [d1, d2, d3, d4, d5] => { results := [.lit (.bool true)], args := [d1, d2, d3, d4, d5] }
  | _ => none }
def linebreakBreaksRow : OpenClaim := { program := "ytcammfdljiingaa", sum := "6fb644421ce6912858866b0e7e37217ae8293379fc4d6fb511855d3f2db5c5e9", func := "wordbook/wordbooklaw32.LinebreakBreaks", spec := "linebreakBreaks", inPlace := ["internal/abi.NoEscape"], unfollowed := true, recurses := true, apart := false }
def LinebreakBreaksSaid : Prop := linebreakBreaksRow.holds Try.pinned (OpenSpec.ofChange linebreakBreaksSpec)

/-- ITS FALSE NEIGHBOUR: 'it returns false'. Refute it at one input. -/
def linebreakBreaksWrong : ChangeSpec := { name := "linebreakBreaks", fn := fun _ => fun
  | [d1, d2, d3, d4, d5] => { results := [.lit (.bool false)], args := [d1, d2, d3, d4, d5] }
  | _ => none }
def LinebreakBreaksWrongFalsely : Prop := linebreakBreaksRow.holds Try.pinned (OpenSpec.ofChange linebreakBreaksWrong)

/-- 'wordbooklaw32.LinebreakChecks': WHATEVER THE INPUT: true; the input reads as it did. -/
def linebreakChecksSpec : ChangeSpec := { name := "linebreakChecks", fn := fun _ => fun
  | [d1, d2, d3, d4, d5] => { results := [.lit (.bool true)], args := [d1, d2, d3, d4, d5] }
  | _ => none }
def linebreakChecksRow : OpenClaim := { program := "ytcammfdljiingaa", sum := "6fb644421ce6912858866b0e7e37217ae8293379fc4d6fb511855d3f2db5c5e9", func := "wordbook/wordbooklaw32.LinebreakChecks", spec := "linebreakChecks", inPlace := ["internal/abi.NoEscape"], unfollowed := true, recurses := true, apart := false }
def LinebreakChecksSaid : Prop := linebreakChecksRow.holds Try.pinned (OpenSpec.ofChange linebreakChecksSpec)

/-- ITS FALSE NEIGHBOUR: 'it returns false'. Refute it at one input. -/
def linebreakChecksWrong : ChangeSpec := { name := "linebreakChecks", fn := fun _ => fun
  | [d1, d2, d3, d4, d5] => { results := [.lit (.bool false)], args := [d1, d2, d3, d4, d5] }
  | _ => none }
def LinebreakChecksWrongFalsely : Prop := linebreakChecksRow.holds Try.pinned (OpenSpec.ofChange linebreakChecksWrong)

/-- 'wordbooklaw32.LinebreakTexts': WHATEVER THE INPUT: true; the input reads as it did. -/
def linebreakTextsSpec : ChangeSpec := { name := "linebreakTexts", fn := fun _ => fun
  | [d1, d2, d3, d4, d5, d6] => { results := [.lit (.bool true)], args := [d1, d2, d3, d4, d5, d6] }
  | _ => none }
def linebreakTextsRow : OpenClaim := { program := "ytcammfdljiingaa", sum := "6fb644421ce6912858866b0e7e37217ae8293379fc4d6fb511855d3f2db5c5e9", func := "wordbook/wordbooklaw32.LinebreakTexts", spec := "linebreakTexts", inPlace := ["internal/abi.NoEscape"], unfollowed := true, recurses := true, apart := false }
def LinebreakTextsSaid : Prop := linebreakTextsRow.holds Try.pinned (OpenSpec.ofChange linebreakTextsSpec)

/-- ITS FALSE NEIGHBOUR: 'it returns false'. Refute it at one input. -/
def linebreakTextsWrong : ChangeSpec := { name := "linebreakTexts", fn := fun _ => fun
  | [d1, d2, d3, d4, d5, d6] => { results := [.lit (.bool false)], args := [d1, d2, d3, d4, d5, d6] }
  | _ => none }
def LinebreakTextsWrongFalsely : Prop := linebreakTextsRow.holds Try.pinned (OpenSpec.ofChange linebreakTextsWrong)

/-- 'wordbooklaw32.LinebreakScaled': WHATEVER THE INPUT: true; the input reads as it did. -/
def linebreakScaledSpec : ChangeSpec := { name := "linebreakScaled", fn := fun _ => fun
  | [d1, d2, d3] => { results := [.lit (.bool true)], args := [d1, d2, d3] }
  | _ => none }
def linebreakScaledRow : OpenClaim := { program := "ytcammfdljiingaa", sum := "6fb644421ce6912858866b0e7e37217ae8293379fc4d6fb511855d3f2db5c5e9", func := "wordbook/wordbooklaw32.LinebreakScaled", spec := "linebreakScaled", inPlace := ["internal/abi.NoEscape"], unfollowed := true, recurses := true, apart := false }
def LinebreakScaledSaid : Prop := linebreakScaledRow.holds Try.pinned (OpenSpec.ofChange linebreakScaledSpec)

/-- ITS FALSE NEIGHBOUR: 'it returns false'. Refute it at one input. -/
def linebreakScaledWrong : ChangeSpec := { name := "linebreakScaled", fn := fun _ => fun
  | [d1, d2, d3] => { results := [.lit (.bool false)], args := [d1, d2, d3] }
  | _ => none }
def LinebreakScaledWrongFalsely : Prop := linebreakScaledRow.holds Try.pinned (OpenSpec.ofChange linebreakScaledWrong)

/-- 'wordbooklaw32.LinebreakCosts': WHATEVER THE INPUT: true; the input reads as it did. -/
def linebreakCostsSpec : ChangeSpec := { name := "linebreakCosts", fn := fun _ => fun
  | [d1, d2, d3, d4, d5, d6] => { results := [.lit (.bool true)], args := [d1, d2, d3, d4, d5, d6] }
  | _ => none }
def linebreakCostsRow : OpenClaim := { program := "ytcammfdljiingaa", sum := "6fb644421ce6912858866b0e7e37217ae8293379fc4d6fb511855d3f2db5c5e9", func := "wordbook/wordbooklaw32.LinebreakCosts", spec := "linebreakCosts", inPlace := ["internal/abi.NoEscape"], unfollowed := true, recurses := true, apart := false }
def LinebreakCostsSaid : Prop := linebreakCostsRow.holds Try.pinned (OpenSpec.ofChange linebreakCostsSpec)

/-- ITS FALSE NEIGHBOUR: 'it returns false'. Refute it at one input. -/
def linebreakCostsWrong : ChangeSpec := { name := "linebreakCosts", fn := fun _ => fun
  | [d1, d2, d3, d4, d5, d6] => { results := [.lit (.bool false)], args := [d1, d2, d3, d4, d5, d6] }
  | _ => none }
def LinebreakCostsWrongFalsely : Prop := linebreakCostsRow.holds Try.pinned (OpenSpec.ofChange linebreakCostsWrong)

/-- 'wordbooklaw32.LinebreakLeast': WHATEVER THE INPUT: true; the input reads as it did. -/
def linebreakLeastSpec : ChangeSpec := { name := "linebreakLeast", fn := fun _ => fun
  | [d1, d2, d3] => { results := [.lit (.bool true)], args := [d1, d2, d3] }
  | _ => none }
def linebreakLeastRow : OpenClaim := { program := "ytcammfdljiingaa", sum := "6fb644421ce6912858866b0e7e37217ae8293379fc4d6fb511855d3f2db5c5e9", func := "wordbook/wordbooklaw32.LinebreakLeast", spec := "linebreakLeast", inPlace := ["internal/abi.NoEscape"], unfollowed := true, recurses := true, apart := false }
def LinebreakLeastSaid : Prop := linebreakLeastRow.holds Try.pinned (OpenSpec.ofChange linebreakLeastSpec)

/-- ITS FALSE NEIGHBOUR: 'it returns false'. Refute it at one input. -/
def linebreakLeastWrong : ChangeSpec := { name := "linebreakLeast", fn := fun _ => fun
  | [d1, d2, d3] => { results := [.lit (.bool false)], args := [d1, d2, d3] }
  | _ => none }
def LinebreakLeastWrongFalsely : Prop := linebreakLeastRow.holds Try.pinned (OpenSpec.ofChange linebreakLeastWrong)

/-- 'wordbooklaw32.LinebreakLines': WHATEVER THE INPUT: true; the input reads as it did. -/
def linebreakLinesSpec : ChangeSpec := { name := "linebreakLines", fn := fun _ => fun
  | [d1, d2] => { results := [.lit (.bool true)], args := [d1, d2] }
  | _ => none }
def linebreakLinesRow : OpenClaim := { program := "ytcammfdljiingaa", sum := "6fb644421ce6912858866b0e7e37217ae8293379fc4d6fb511855d3f2db5c5e9", func := "wordbook/wordbooklaw32.LinebreakLines", spec := "linebreakLines", inPlace := ["internal/abi.NoEscape"], unfollowed := true, recurses := true, apart := false }
def LinebreakLinesSaid : Prop := linebreakLinesRow.holds Try.pinned (OpenSpec.ofChange linebreakLinesSpec)

/-- ITS FALSE NEIGHBOUR: 'it returns false'. Refute it at one input. -/
def linebreakLinesWrong : ChangeSpec := { name := "linebreakLines", fn := fun _ => fun
  | [d1, d2] => { results := [.lit (.bool false)], args := [d1, d2] }
  | _ => none }
def LinebreakLinesWrongFalsely : Prop := linebreakLinesRow.holds Try.pinned (OpenSpec.ofChange linebreakLinesWrong)

/- THE SECOND FORM. 'bulk': how many values and letters a reading holds, each counted each time it is reached (what is shared counts as often as it is met; a slice's spare places count too). A statement '..UptoSaid' is the law's where the arguments, and the package variables that the reading takes, are together of bulk at most 1048576: NARROWER than '..Said'. Prove '..Said' where nothing that the law and all that it calls make is longer than what came in: it says more and counts as full. Else prove '..UptoSaid'. A law counts once. -/
mutual
def uptoBulk {H : Type} : DataW H → Nat
  | .lit (.string bytes) => bytes.length + 1
  | .lit _ => 1
  | .nil => 1
  | .ptr d => uptoBulk d + 1
  | .slice elems spare => uptoBulkAll elems + uptoBulkAll spare + 1
  | .agg parts => uptoBulkAll parts + 1
  | .iface _ d => uptoBulk d + 1
  | .map entries => uptoBulkEntries entries + 1
  | .held _ => 1
def uptoBulkAll {H : Type} : List (DataW H) → Nat
  | [] => 0
  | d :: r => uptoBulk d + uptoBulkAll r
def uptoBulkEntries {H : Type} : List (Lit × DataW H) → Nat
  | [] => 0
  | x :: r => uptoBulkEntry x + uptoBulkEntries r
def uptoBulkEntry {H : Type} : Lit × DataW H → Nat
  | (.string bytes, d) => bytes.length + uptoBulk d + 1
  | (_, d) => uptoBulk d + 1
 end
def uptoSmall : (H : Type) → List (DataW H) → Bool := fun _ ds => decide (uptoBulkAll ds ≤ 1048576)
def OpenSpec.upto (s : _root_.Go.ChangeSpec) : _root_.Go.OpenSpec := { _root_.Go.OpenSpec.ofChange s with cond := some uptoSmall }

/-- 'wordbooklaw32.LinebreakBreaks', WHERE WHAT IT READS IS OF BULK AT MOST 1048576: true; the input reads as it did. -/
def linebreakBreaksUptoRow : OpenClaim := { program := "ytcammfdljiingaa", sum := "6fb644421ce6912858866b0e7e37217ae8293379fc4d6fb511855d3f2db5c5e9", func := "wordbook/wordbooklaw32.LinebreakBreaks", spec := "linebreakBreaks", inPlace := ["internal/abi.NoEscape"], unfollowed := true, recurses := true, apart := false, narrowed := true }
def LinebreakBreaksUptoSaid : Prop := linebreakBreaksUptoRow.holds Try.pinned (OpenSpec.upto linebreakBreaksSpec)

/-- 'wordbooklaw32.LinebreakChecks', WHERE WHAT IT READS IS OF BULK AT MOST 1048576: true; the input reads as it did. -/
def linebreakChecksUptoRow : OpenClaim := { program := "ytcammfdljiingaa", sum := "6fb644421ce6912858866b0e7e37217ae8293379fc4d6fb511855d3f2db5c5e9", func := "wordbook/wordbooklaw32.LinebreakChecks", spec := "linebreakChecks", inPlace := ["internal/abi.NoEscape"], unfollowed := true, recurses := true, apart := false, narrowed := true }
def LinebreakChecksUptoSaid : Prop := linebreakChecksUptoRow.holds Try.pinned (OpenSpec.upto linebreakChecksSpec)

/-- 'wordbooklaw32.LinebreakTexts', WHERE WHAT IT READS IS OF BULK AT MOST 1048576: true; the input reads as it did. -/
def linebreakTextsUptoRow : OpenClaim := { program := "ytcammfdljiingaa", sum := "6fb644421ce6912858866b0e7e37217ae8293379fc4d6fb511855d3f2db5c5e9", func := "wordbook/wordbooklaw32.LinebreakTexts", spec := "linebreakTexts", inPlace := ["internal/abi.NoEscape"], unfollowed := true, recurses := true, apart := false, narrowed := true }
def LinebreakTextsUptoSaid : Prop := linebreakTextsUptoRow.holds Try.pinned (OpenSpec.upto linebreakTextsSpec)

/-- 'wordbooklaw32.LinebreakScaled', WHERE WHAT IT READS IS OF BULK AT MOST 1048576: true; the input reads as it did. -/
def linebreakScaledUptoRow : OpenClaim := { program := "ytcammfdljiingaa", sum := "6fb644421ce6912858866b0e7e37217ae8293379fc4d6fb511855d3f2db5c5e9", func := "wordbook/wordbooklaw32.LinebreakScaled", spec := "linebreakScaled", inPlace := ["internal/abi.NoEscape"], unfollowed := true, recurses := true, apart := false, narrowed := true }
def LinebreakScaledUptoSaid : Prop := linebreakScaledUptoRow.holds Try.pinned (OpenSpec.upto linebreakScaledSpec)

/-- 'wordbooklaw32.LinebreakCosts', WHERE WHAT IT READS IS OF BULK AT MOST 1048576: true; the input reads as it did. -/
def linebreakCostsUptoRow : OpenClaim := { program := "ytcammfdljiingaa", sum := "6fb644421ce6912858866b0e7e37217ae8293379fc4d6fb511855d3f2db5c5e9", func := "wordbook/wordbooklaw32.LinebreakCosts", spec := "linebreakCosts", inPlace := ["internal/abi.NoEscape"], unfollowed := true, recurses := true, apart := false, narrowed := true }
def LinebreakCostsUptoSaid : Prop := linebreakCostsUptoRow.holds Try.pinned (OpenSpec.upto linebreakCostsSpec)

/-- 'wordbooklaw32.LinebreakLeast', WHERE WHAT IT READS IS OF BULK AT MOST 1048576: true; the input reads as it did. -/
def linebreakLeastUptoRow : OpenClaim := { program := "ytcammfdljiingaa", sum := "6fb644421ce6912858866b0e7e37217ae8293379fc4d6fb511855d3f2db5c5e9", func := "wordbook/wordbooklaw32.LinebreakLeast", spec := "linebreakLeast", inPlace := ["internal/abi.NoEscape"], unfollowed := true, recurses := true, apart := false, narrowed := true }
def LinebreakLeastUptoSaid : Prop := linebreakLeastUptoRow.holds Try.pinned (OpenSpec.upto linebreakLeastSpec)

/-- 'wordbooklaw32.LinebreakLines', WHERE WHAT IT READS IS OF BULK AT MOST 1048576: true; the input reads as it did. -/
def linebreakLinesUptoRow : OpenClaim := { program := "ytcammfdljiingaa", sum := "6fb644421ce6912858866b0e7e37217ae8293379fc4d6fb511855d3f2db5c5e9", func := "wordbook/wordbooklaw32.LinebreakLines", spec := "linebreakLines", inPlace := ["internal/abi.NoEscape"], unfollowed := true, recurses := true, apart := false, narrowed := true }
def LinebreakLinesUptoSaid : Prop := linebreakLinesUptoRow.holds Try.pinned (OpenSpec.upto linebreakLinesSpec)

end Rows
end Go.Proofs.Ytcammfdljiingaa
