/-
  DERIVED. GIVEN WITH THE SEED: THE CARDS: each row of YtkgbbcnjkojocaaGreatDoorRows.lean that lists a variable, with what it lists TIED to the program's text (the seventh form; the later family's looks); each row that meets fmt, with fmt's text TOLD by the authors' own Lean function (tested against real Go, not proved from fmt's source: count such statements apart). THE CARD IS WHAT COUNTS. Prove the row's statement (the work); the ties are given (YtkgbbcnjkojocaaGreatDoorTie.lean); close each card by the builder's one call (the guide's Derived/Test/ToyasCard.lean, 'card_holds'). Laid BY PROGRAM, IN A SANDBOX (cutbox-door.mjs). By AI agents, Wed Nov 11 2026. No macro, syntax, notation, axiom, sorry.
-/
import Derived.Test.YtkgbbcnjkojocaaGreatDoorRows
import GoSem.ClaimSeven
namespace Go.Proofs.YtkgbbcnjkojocaaGreatDoor
namespace Rows

/-- THE TIED CARD OF 'avocetlaw32.GentypeTells'. -/
def gentypeTellsCard : Claim7 := { stood := { row := gentypeTellsRow, standIns := [], harness := (true, "d73eef3ae72a04ccb0821a6391236e744589d9fa2c9b7fa2b060cb7997e6fcc7"), looks := false }, kinds := [], alts := [], laidByText := true, laidKinds := [.data], laidTests := true, laidLooks := .later }
def GentypeTellsCardSaid : Prop := Claim7.holds Tryz.pinned (.plain (OpenSpec.ofChange gentypeTellsSpec)) gentypeTellsCard

/-- THE SECOND FORM's CARD OF 'avocetlaw32.GentypeTells'. -/
def gentypeTellsUptoCard : Claim7 := { stood := { row := gentypeTellsUptoRow, standIns := [], harness := (true, "d73eef3ae72a04ccb0821a6391236e744589d9fa2c9b7fa2b060cb7997e6fcc7"), looks := false }, kinds := [], alts := [], laidByText := true, laidKinds := [.data], laidTests := true, laidLooks := .later }
def GentypeTellsUptoCardSaid : Prop := Claim7.holds Tryz.pinned (.plain (OpenSpec.upto gentypeTellsSpec)) gentypeTellsUptoCard
end Rows
end Go.Proofs.YtkgbbcnjkojocaaGreatDoor
