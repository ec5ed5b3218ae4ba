/-
  DERIVED. GIVEN WITH THE SEED: THE CARDS: each row of YtjofjgflcogklaaDoorRows.lean that lists a variable, with what it lists TIED to the program's text (the seventh form; the later family's looks); each row that meets fmt, with fmt's text TOLD by the authors' own Lean function (tested against real Go, not proved from fmt's source: count such statements apart). THE CARD IS WHAT COUNTS. Prove the row's statement (the work); the ties are given (YtjofjgflcogklaaDoorTie.lean); close each card by the builder's one call (the guide's Derived/Test/ToyasCard.lean, 'card_holds'). Laid BY PROGRAM, IN A SANDBOX (cutbox-door.mjs). By AI agents, Wed Nov 11 2026. No macro, syntax, notation, axiom, sorry.
-/
import Derived.Test.YtjofjgflcogklaaDoorRows
import GoSem.ClaimSeven
namespace Go.Proofs.YtjofjgflcogklaaDoor
namespace Rows

/-- THE TIED CARD OF 'wordbooklaw39.JournalSectors'. -/
def journalSectorsCard : Claim7 := { stood := { row := journalSectorsRow, standIns := [], harness := (true, "89ee6c31c3a1a00b4fa7c110b94d20589e5410ac2af746354883a772673b456d"), looks := false }, kinds := [], alts := [], laidByText := true, laidKinds := [.data, .data], laidTests := true, laidLooks := .later }
def JournalSectorsCardSaid : Prop := Claim7.holds Tryd.pinned (.plain (OpenSpec.ofChange journalSectorsSpec)) journalSectorsCard

/-- THE TIED CARD OF 'wordbooklaw39.JournalGoesOn'. -/
def journalGoesOnCard : Claim7 := { stood := { row := journalGoesOnRow, standIns := [], harness := (true, "89ee6c31c3a1a00b4fa7c110b94d20589e5410ac2af746354883a772673b456d"), looks := false }, kinds := [], alts := [], laidByText := true, laidKinds := [.data], laidTests := true, laidLooks := .later }
def JournalGoesOnCardSaid : Prop := Claim7.holds Tryd.pinned (.plain (OpenSpec.ofChange journalGoesOnSpec)) journalGoesOnCard

/-- THE SECOND FORM's CARD OF 'wordbooklaw39.JournalSectors'. -/
def journalSectorsUptoCard : Claim7 := { stood := { row := journalSectorsUptoRow, standIns := [], harness := (true, "89ee6c31c3a1a00b4fa7c110b94d20589e5410ac2af746354883a772673b456d"), looks := false }, kinds := [], alts := [], laidByText := true, laidKinds := [.data, .data], laidTests := true, laidLooks := .later }
def JournalSectorsUptoCardSaid : Prop := Claim7.holds Tryd.pinned (.plain (OpenSpec.upto journalSectorsSpec)) journalSectorsUptoCard

/-- THE SECOND FORM's CARD OF 'wordbooklaw39.JournalGoesOn'. -/
def journalGoesOnUptoCard : Claim7 := { stood := { row := journalGoesOnUptoRow, standIns := [], harness := (true, "89ee6c31c3a1a00b4fa7c110b94d20589e5410ac2af746354883a772673b456d"), looks := false }, kinds := [], alts := [], laidByText := true, laidKinds := [.data], laidTests := true, laidLooks := .later }
def JournalGoesOnUptoCardSaid : Prop := Claim7.holds Tryd.pinned (.plain (OpenSpec.upto journalGoesOnSpec)) journalGoesOnUptoCard
end Rows
end Go.Proofs.YtjofjgflcogklaaDoor
