/-
  DERIVED. GIVEN WITH THE SEED: THE CARDS: each row of YthhdkkecolocdaaGreatDoorRows.lean that lists a variable, with what it lists TIED to the program's text (the seventh form; the later family's looks); each row that meets fmt, with fmt's text TOLD by the authors' own Lean function (tested against real Go, not proved from fmt's source: count such statements apart). THE CARD IS WHAT COUNTS. Prove the row's statement (the work); the ties are given (YthhdkkecolocdaaGreatDoorTie.lean); close each card by the builder's one call (the guide's Derived/Test/ToyasCard.lean, 'card_holds'). Laid BY PROGRAM, IN A SANDBOX (cutbox-door.mjs). By AI agents, Wed Nov 11 2026. No macro, syntax, notation, axiom, sorry.
-/
import Derived.Test.YthhdkkecolocdaaGreatDoorRows
import GoSem.ClaimSeven
namespace Go.Proofs.YthhdkkecolocdaaGreatDoor
namespace Rows

/-- THE TIED CARD OF 'wordbooklaw33.LayoutEntries'. -/
def layoutEntriesCard : Claim7 := { stood := { row := layoutEntriesRow, standIns := [], harness := (true, "a3d2ad99b785762e60b66c1307177826c7e79e6d391ab40b40b0050fe412dec7"), looks := false }, kinds := [], alts := [], laidByText := true, laidKinds := [.data, .data, .data, .data, .data, .pinned], laidTests := true, laidLooks := .later }
def LayoutEntriesCardSaid : Prop := Claim7.holds Tryz.pinned (.plain (OpenSpec.ofChange layoutEntriesSpec)) layoutEntriesCard

/-- THE TIED CARD OF 'wordbooklaw33.LayoutNumbers'. -/
def layoutNumbersCard : Claim7 := { stood := { row := layoutNumbersRow, standIns := [], harness := (true, "a3d2ad99b785762e60b66c1307177826c7e79e6d391ab40b40b0050fe412dec7"), looks := false }, kinds := [], alts := [], laidByText := true, laidKinds := [.data, .data, .data, .data, .data, .pinned], laidTests := true, laidLooks := .later }
def LayoutNumbersCardSaid : Prop := Claim7.holds Tryz.pinned (.plain (OpenSpec.ofChange layoutNumbersSpec)) layoutNumbersCard

/-- THE TIED CARD OF 'wordbooklaw33.LayoutOrder'. -/
def layoutOrderCard : Claim7 := { stood := { row := layoutOrderRow, standIns := [], harness := (true, "a3d2ad99b785762e60b66c1307177826c7e79e6d391ab40b40b0050fe412dec7"), looks := false }, kinds := [], alts := [], laidByText := true, laidKinds := [.data, .data, .data, .data, .data, .pinned], laidTests := true, laidLooks := .later }
def LayoutOrderCardSaid : Prop := Claim7.holds Tryz.pinned (.plain (OpenSpec.ofChange layoutOrderSpec)) layoutOrderCard

/-- THE TIED CARD OF 'wordbooklaw33.LayoutTree'. -/
def layoutTreeCard : Claim7 := { stood := { row := layoutTreeRow, standIns := [], harness := (true, "a3d2ad99b785762e60b66c1307177826c7e79e6d391ab40b40b0050fe412dec7"), looks := false }, kinds := [], alts := [], laidByText := true, laidKinds := [.data, .data, .data, .data, .data, .pinned], laidTests := true, laidLooks := .later }
def LayoutTreeCardSaid : Prop := Claim7.holds Tryz.pinned (.plain (OpenSpec.ofChange layoutTreeSpec)) layoutTreeCard

/-- THE SECOND FORM's CARD OF 'wordbooklaw33.LayoutEntries'. -/
def layoutEntriesUptoCard : Claim7 := { stood := { row := layoutEntriesUptoRow, standIns := [], harness := (true, "a3d2ad99b785762e60b66c1307177826c7e79e6d391ab40b40b0050fe412dec7"), looks := false }, kinds := [], alts := [], laidByText := true, laidKinds := [.data, .data, .data, .data, .data, .pinned], laidTests := true, laidLooks := .later }
def LayoutEntriesUptoCardSaid : Prop := Claim7.holds Tryz.pinned (.plain (OpenSpec.upto layoutEntriesSpec)) layoutEntriesUptoCard

/-- THE SECOND FORM's CARD OF 'wordbooklaw33.LayoutNumbers'. -/
def layoutNumbersUptoCard : Claim7 := { stood := { row := layoutNumbersUptoRow, standIns := [], harness := (true, "a3d2ad99b785762e60b66c1307177826c7e79e6d391ab40b40b0050fe412dec7"), looks := false }, kinds := [], alts := [], laidByText := true, laidKinds := [.data, .data, .data, .data, .data, .pinned], laidTests := true, laidLooks := .later }
def LayoutNumbersUptoCardSaid : Prop := Claim7.holds Tryz.pinned (.plain (OpenSpec.upto layoutNumbersSpec)) layoutNumbersUptoCard

/-- THE SECOND FORM's CARD OF 'wordbooklaw33.LayoutOrder'. -/
def layoutOrderUptoCard : Claim7 := { stood := { row := layoutOrderUptoRow, standIns := [], harness := (true, "a3d2ad99b785762e60b66c1307177826c7e79e6d391ab40b40b0050fe412dec7"), looks := false }, kinds := [], alts := [], laidByText := true, laidKinds := [.data, .data, .data, .data, .data, .pinned], laidTests := true, laidLooks := .later }
def LayoutOrderUptoCardSaid : Prop := Claim7.holds Tryz.pinned (.plain (OpenSpec.upto layoutOrderSpec)) layoutOrderUptoCard

/-- THE SECOND FORM's CARD OF 'wordbooklaw33.LayoutTree'. -/
def layoutTreeUptoCard : Claim7 := { stood := { row := layoutTreeUptoRow, standIns := [], harness := (true, "a3d2ad99b785762e60b66c1307177826c7e79e6d391ab40b40b0050fe412dec7"), looks := false }, kinds := [], alts := [], laidByText := true, laidKinds := [.data, .data, .data, .data, .data, .pinned], laidTests := true, laidLooks := .later }
def LayoutTreeUptoCardSaid : Prop := Claim7.holds Tryz.pinned (.plain (OpenSpec.upto layoutTreeSpec)) layoutTreeUptoCard
end Rows
end Go.Proofs.YthhdkkecolocdaaGreatDoor
