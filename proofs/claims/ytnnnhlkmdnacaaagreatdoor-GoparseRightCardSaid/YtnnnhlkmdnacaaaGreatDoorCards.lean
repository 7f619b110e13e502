/-
  DERIVED. GIVEN WITH THE SEED: THE CARDS: each row of YtnnnhlkmdnacaaaGreatDoorRows.lean that lists a variable, with what it lists TIED to the program's text (the seventh form; the later family's looks); each row that meets fmt, with fmt's text TOLD by the authors' own Lean function (tested against real Go, not proved from fmt's source: count such statements apart). THE CARD IS WHAT COUNTS. Prove the row's statement (the work); the ties are given (YtnnnhlkmdnacaaaGreatDoorTie.lean); close each card by the builder's one call (the guide's Derived/Test/ToyasCard.lean, 'card_holds'). Laid BY PROGRAM, IN A SANDBOX (cutbox-door.mjs). By AI agents, Wed Nov 11 2026. No macro, syntax, notation, axiom, sorry.
-/
import Derived.Test.YtnnnhlkmdnacaaaGreatDoorRows
import GoSem.ClaimSeven
namespace Go.Proofs.YtnnnhlkmdnacaaaGreatDoor
namespace Rows

/-- THE TIED CARD OF 'avocetlaw25.GoparsePrograms'. -/
def goparseProgramsCard : Claim7 := { stood := { row := goparseProgramsRow, standIns := [], harness := (true, "dfe398ba2dbc13197e1aa8d68be560a7bd0ccd26227f75170122c02a377af894"), looks := false }, kinds := [], alts := [], laidByText := true, laidKinds := [.data, .data], laidTests := true, laidLooks := .later }
def GoparseProgramsCardSaid : Prop := Claim7.holds Tryz.pinned (.plain (OpenSpec.ofChange goparseProgramsSpec)) goparseProgramsCard

/-- THE TIED CARD OF 'avocetlaw25.GoparseRight'. -/
def goparseRightCard : Claim7 := { stood := { row := goparseRightRow, standIns := [], harness := (true, "dfe398ba2dbc13197e1aa8d68be560a7bd0ccd26227f75170122c02a377af894"), looks := false }, kinds := [], alts := [], laidByText := true, laidKinds := [.data, .data], laidTests := true, laidLooks := .later }
def GoparseRightCardSaid : Prop := Claim7.holds Tryz.pinned (.plain (OpenSpec.ofChange goparseRightSpec)) goparseRightCard

/-- THE SECOND FORM's CARD OF 'avocetlaw25.GoparsePrograms'. -/
def goparseProgramsUptoCard : Claim7 := { stood := { row := goparseProgramsUptoRow, standIns := [], harness := (true, "dfe398ba2dbc13197e1aa8d68be560a7bd0ccd26227f75170122c02a377af894"), looks := false }, kinds := [], alts := [], laidByText := true, laidKinds := [.data, .data], laidTests := true, laidLooks := .later }
def GoparseProgramsUptoCardSaid : Prop := Claim7.holds Tryz.pinned (.plain (OpenSpec.upto goparseProgramsSpec)) goparseProgramsUptoCard

/-- THE SECOND FORM's CARD OF 'avocetlaw25.GoparseRight'. -/
def goparseRightUptoCard : Claim7 := { stood := { row := goparseRightUptoRow, standIns := [], harness := (true, "dfe398ba2dbc13197e1aa8d68be560a7bd0ccd26227f75170122c02a377af894"), looks := false }, kinds := [], alts := [], laidByText := true, laidKinds := [.data, .data], laidTests := true, laidLooks := .later }
def GoparseRightUptoCardSaid : Prop := Claim7.holds Tryz.pinned (.plain (OpenSpec.upto goparseRightSpec)) goparseRightUptoCard
end Rows
end Go.Proofs.YtnnnhlkmdnacaaaGreatDoor
