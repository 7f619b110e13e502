/-
  DERIVED. GIVEN WITH THE SEED: THE CARDS: each row of YtnfnbjjnjjdjdaaGreatDoorRows.lean that lists a variable, with what it lists TIED to the program's text (the seventh form; the later family's looks); each row that meets fmt, with fmt's text TOLD by the authors' own Lean function (tested against real Go, not proved from fmt's source: count such statements apart). THE CARD IS WHAT COUNTS. Prove the row's statement (the work); the ties are given (YtnfnbjjnjjdjdaaGreatDoorTie.lean); close each card by the builder's one call (the guide's Derived/Test/ToyasCard.lean, 'card_holds'). Laid BY PROGRAM, IN A SANDBOX (cutbox-door.mjs). By AI agents, Wed Nov 11 2026. No macro, syntax, notation, axiom, sorry.
-/
import Derived.Test.YtnfnbjjnjjdjdaaGreatDoorRows
import GoSem.ClaimSeven
namespace Go.Proofs.YtnfnbjjnjjdjdaaGreatDoor
namespace Rows

/-- THE TIED CARD OF 'avocetlaw27.GotypeChecks'. -/
def gotypeChecksCard : Claim7 := { stood := { row := gotypeChecksRow, standIns := [], harness := (true, "db433ec3f75f43148ebd114d163898518533fcea657eecc409ddd8363a4bc282"), looks := false }, kinds := [], alts := [], laidByText := true, laidKinds := [.data, .data], laidTests := true, laidLooks := .later }
def GotypeChecksCardSaid : Prop := Claim7.holds Tryz.pinned (.plain (OpenSpec.ofChange gotypeChecksSpec)) gotypeChecksCard

/-- THE TIED CARD OF 'avocetlaw27.GotypeKinds'. -/
def gotypeKindsCard : Claim7 := { stood := { row := gotypeKindsRow, standIns := [], harness := (true, "db433ec3f75f43148ebd114d163898518533fcea657eecc409ddd8363a4bc282"), looks := false }, kinds := [], alts := [], laidByText := true, laidKinds := [.data, .data], laidTests := true, laidLooks := .later }
def GotypeKindsCardSaid : Prop := Claim7.holds Tryz.pinned (.plain (OpenSpec.ofChange gotypeKindsSpec)) gotypeKindsCard

/-- THE TIED CARD OF 'avocetlaw27.GotypeBare'. -/
def gotypeBareCard : Claim7 := { stood := { row := gotypeBareRow, standIns := [], harness := (true, "db433ec3f75f43148ebd114d163898518533fcea657eecc409ddd8363a4bc282"), looks := false }, kinds := [], alts := [], laidByText := true, laidKinds := [.data, .data], laidTests := true, laidLooks := .later }
def GotypeBareCardSaid : Prop := Claim7.holds Tryz.pinned (.plain (OpenSpec.ofChange gotypeBareSpec)) gotypeBareCard

/-- THE TIED CARD OF 'avocetlaw27.GotypeMore'. -/
def gotypeMoreCard : Claim7 := { stood := { row := gotypeMoreRow, standIns := [], harness := (true, "db433ec3f75f43148ebd114d163898518533fcea657eecc409ddd8363a4bc282"), looks := false }, kinds := [], alts := [], laidByText := true, laidKinds := [.data, .data], laidTests := true, laidLooks := .later }
def GotypeMoreCardSaid : Prop := Claim7.holds Tryz.pinned (.plain (OpenSpec.ofChange gotypeMoreSpec)) gotypeMoreCard

/-- THE SECOND FORM's CARD OF 'avocetlaw27.GotypeChecks'. -/
def gotypeChecksUptoCard : Claim7 := { stood := { row := gotypeChecksUptoRow, standIns := [], harness := (true, "db433ec3f75f43148ebd114d163898518533fcea657eecc409ddd8363a4bc282"), looks := false }, kinds := [], alts := [], laidByText := true, laidKinds := [.data, .data], laidTests := true, laidLooks := .later }
def GotypeChecksUptoCardSaid : Prop := Claim7.holds Tryz.pinned (.plain (OpenSpec.upto gotypeChecksSpec)) gotypeChecksUptoCard

/-- THE SECOND FORM's CARD OF 'avocetlaw27.GotypeKinds'. -/
def gotypeKindsUptoCard : Claim7 := { stood := { row := gotypeKindsUptoRow, standIns := [], harness := (true, "db433ec3f75f43148ebd114d163898518533fcea657eecc409ddd8363a4bc282"), looks := false }, kinds := [], alts := [], laidByText := true, laidKinds := [.data, .data], laidTests := true, laidLooks := .later }
def GotypeKindsUptoCardSaid : Prop := Claim7.holds Tryz.pinned (.plain (OpenSpec.upto gotypeKindsSpec)) gotypeKindsUptoCard

/-- THE SECOND FORM's CARD OF 'avocetlaw27.GotypeBare'. -/
def gotypeBareUptoCard : Claim7 := { stood := { row := gotypeBareUptoRow, standIns := [], harness := (true, "db433ec3f75f43148ebd114d163898518533fcea657eecc409ddd8363a4bc282"), looks := false }, kinds := [], alts := [], laidByText := true, laidKinds := [.data, .data], laidTests := true, laidLooks := .later }
def GotypeBareUptoCardSaid : Prop := Claim7.holds Tryz.pinned (.plain (OpenSpec.upto gotypeBareSpec)) gotypeBareUptoCard

/-- THE SECOND FORM's CARD OF 'avocetlaw27.GotypeMore'. -/
def gotypeMoreUptoCard : Claim7 := { stood := { row := gotypeMoreUptoRow, standIns := [], harness := (true, "db433ec3f75f43148ebd114d163898518533fcea657eecc409ddd8363a4bc282"), looks := false }, kinds := [], alts := [], laidByText := true, laidKinds := [.data, .data], laidTests := true, laidLooks := .later }
def GotypeMoreUptoCardSaid : Prop := Claim7.holds Tryz.pinned (.plain (OpenSpec.upto gotypeMoreSpec)) gotypeMoreUptoCard
end Rows
end Go.Proofs.YtnfnbjjnjjdjdaaGreatDoor
