/-
  DERIVED. GIVEN WITH THE SEED: THE CARDS: each row of YtombghldgdcjcaaDoorRows.lean that lists a variable, with what it lists TIED to the program's text (the seventh form; the later family's looks); each row that meets fmt, with fmt's text TOLD by the authors' own Lean function (tested against real Go, not proved from fmt's source: count such statements apart). THE CARD IS WHAT COUNTS. Prove the row's statement (the work); the ties are given (YtombghldgdcjcaaDoorTie.lean); close each card by the builder's one call (the guide's Derived/Test/ToyasCard.lean, 'card_holds'). Laid BY PROGRAM, IN A SANDBOX (cutbox-door.mjs). By AI agents, Wed Nov 11 2026. No macro, syntax, notation, axiom, sorry.
-/
import Derived.Test.YtombghldgdcjcaaDoorRows
import GoSem.ClaimSeven
namespace Go.Proofs.YtombghldgdcjcaaDoor
namespace Rows

/-- THE TIED CARD OF 'avocetlaw24.GoastLess'. -/
def goastLessCard : Claim7 := { stood := { row := goastLessRow, standIns := [], harness := (true, "8a1e755f96f7db25ac37df67a2adee47502ac18528558928da02b9dcad134d3e"), looks := false }, kinds := [], alts := [], laidByText := true, laidKinds := [.data, .data], laidTests := true, laidLooks := .later }
def GoastLessCardSaid : Prop := Claim7.holds Tryd.pinned (.plain (OpenSpec.ofChange goastLessSpec)) goastLessCard

/-- THE SECOND FORM's CARD OF 'avocetlaw24.GoastLess'. -/
def goastLessUptoCard : Claim7 := { stood := { row := goastLessUptoRow, standIns := [], harness := (true, "8a1e755f96f7db25ac37df67a2adee47502ac18528558928da02b9dcad134d3e"), looks := false }, kinds := [], alts := [], laidByText := true, laidKinds := [.data, .data], laidTests := true, laidLooks := .later }
def GoastLessUptoCardSaid : Prop := Claim7.holds Tryd.pinned (.plain (OpenSpec.upto goastLessSpec)) goastLessUptoCard
end Rows
end Go.Proofs.YtombghldgdcjcaaDoor
