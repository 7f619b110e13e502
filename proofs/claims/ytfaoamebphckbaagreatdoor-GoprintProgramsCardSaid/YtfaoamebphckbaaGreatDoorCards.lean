/-
  DERIVED. GIVEN WITH THE SEED: THE CARDS: each row of YtfaoamebphckbaaGreatDoorRows.lean that lists a variable, with what it lists TIED to the program's text (the seventh form; the later family's looks); each row that meets fmt, with fmt's text TOLD by the authors' own Lean function (tested against real Go, not proved from fmt's source: count such statements apart). THE CARD IS WHAT COUNTS. Prove the row's statement (the work); the ties are given (YtfaoamebphckbaaGreatDoorTie.lean); close each card by the builder's one call (the guide's Derived/Test/ToyasCard.lean, 'card_holds'). Laid BY PROGRAM, IN A SANDBOX (cutbox-door.mjs). By AI agents, Wed Nov 11 2026. No macro, syntax, notation, axiom, sorry.
-/
import Derived.Test.YtfaoamebphckbaaGreatDoorRows
import GoSem.ClaimSeven
namespace Go.Proofs.YtfaoamebphckbaaGreatDoor
namespace Rows

/-- THE TIED CARD OF 'avocetlaw26.GoprintPrograms'. -/
def goprintProgramsCard : Claim7 := { stood := { row := goprintProgramsRow, standIns := [], harness := (true, "aaae940678a78d10df4a90fe30037ad2b082846374b6cd372f347680a964bae2"), looks := false }, kinds := [], alts := [], laidByText := true, laidKinds := [.data, .data, .data, .data, .data], laidTests := true, laidLooks := .later }
def GoprintProgramsCardSaid : Prop := Claim7.holds Tryz.pinned (.plain (OpenSpec.ofChange goprintProgramsSpec)) goprintProgramsCard

/-- THE TIED CARD OF 'avocetlaw26.GoprintOne'. -/
def goprintOneCard : Claim7 := { stood := { row := goprintOneRow, standIns := [], harness := (true, "aaae940678a78d10df4a90fe30037ad2b082846374b6cd372f347680a964bae2"), looks := false }, kinds := [], alts := [], laidByText := true, laidKinds := [.data, .data, .data, .data, .data], laidTests := true, laidLooks := .later }
def GoprintOneCardSaid : Prop := Claim7.holds Tryz.pinned (.plain (OpenSpec.ofChange goprintOneSpec)) goprintOneCard

/-- THE SECOND FORM's CARD OF 'avocetlaw26.GoprintPrograms'. -/
def goprintProgramsUptoCard : Claim7 := { stood := { row := goprintProgramsUptoRow, standIns := [], harness := (true, "aaae940678a78d10df4a90fe30037ad2b082846374b6cd372f347680a964bae2"), looks := false }, kinds := [], alts := [], laidByText := true, laidKinds := [.data, .data, .data, .data, .data], laidTests := true, laidLooks := .later }
def GoprintProgramsUptoCardSaid : Prop := Claim7.holds Tryz.pinned (.plain (OpenSpec.upto goprintProgramsSpec)) goprintProgramsUptoCard

/-- THE SECOND FORM's CARD OF 'avocetlaw26.GoprintOne'. -/
def goprintOneUptoCard : Claim7 := { stood := { row := goprintOneUptoRow, standIns := [], harness := (true, "aaae940678a78d10df4a90fe30037ad2b082846374b6cd372f347680a964bae2"), looks := false }, kinds := [], alts := [], laidByText := true, laidKinds := [.data, .data, .data, .data, .data], laidTests := true, laidLooks := .later }
def GoprintOneUptoCardSaid : Prop := Claim7.holds Tryz.pinned (.plain (OpenSpec.upto goprintOneSpec)) goprintOneUptoCard
end Rows
end Go.Proofs.YtfaoamebphckbaaGreatDoor
