/-
  DERIVED. GIVEN WITH THE SEED: THE CARDS: each row of YtaelanpmgckfkaaRRRRDoorRows.lean that lists a variable, with what it lists TIED to the program's text (the seventh form; the later family's looks); each row that meets fmt, with fmt's text TOLD by the authors' own Lean function (tested against real Go, not proved from fmt's source: count such statements apart). THE CARD IS WHAT COUNTS. Prove the row's statement (the work); the ties are given (YtaelanpmgckfkaaRRRRDoorTie.lean); close each card by the builder's one call (the guide's Derived/Test/ToyasCard.lean, 'card_holds'). Laid BY PROGRAM, IN A SANDBOX (cutbox-door.mjs). By AI agents, Wed Nov 11 2026. No macro, syntax, notation, axiom, sorry.
-/
import Derived.Test.YtaelanpmgckfkaaRRRRDoorRows
import GoSem.ClaimSeven
namespace Go.Proofs.YtaelanpmgckfkaaRRRRDoor
namespace Rows

/-- THE TIED CARD OF 'avocetlaw23.GolexTakes'. -/
def golexTakesCard : Claim7 := { stood := { row := golexTakesRow, standIns := [], harness := (true, "19f6436deb8d875c1487576d8cb19d57643efb5f20d408a7afe7d5d572aad0f2"), looks := false }, kinds := [], alts := [], laidByText := true, laidKinds := [.data, .data], laidTests := true, laidLooks := .later }
def GolexTakesCardSaid : Prop := Claim7.holds Tryd.pinned (.plain (OpenSpec.ofChange golexTakesSpec)) golexTakesCard

/-- THE TIED CARD OF 'avocetlaw23.GolexWhite'. -/
def golexWhiteCard : Claim7 := { stood := { row := golexWhiteRow, standIns := [], harness := (true, "19f6436deb8d875c1487576d8cb19d57643efb5f20d408a7afe7d5d572aad0f2"), looks := false }, kinds := [], alts := [], laidByText := true, laidKinds := [.data, .data], laidTests := true, laidLooks := .later }
def GolexWhiteCardSaid : Prop := Claim7.holds Tryd.pinned (.plain (OpenSpec.ofChange golexWhiteSpec)) golexWhiteCard

/-- THE TIED CARD OF 'avocetlaw09.NamingAsks'. -/
def namingAsksCard : Claim7 := { stood := { row := namingAsksRow, standIns := [], harness := (true, "19f6436deb8d875c1487576d8cb19d57643efb5f20d408a7afe7d5d572aad0f2"), looks := false }, kinds := [], alts := [], laidByText := true, laidKinds := [.data], laidTests := true, laidLooks := .later }
def NamingAsksCardSaid : Prop := Claim7.holds Tryd.pinned (.plain (OpenSpec.ofChange namingAsksSpec)) namingAsksCard

/-- THE TIED CARD OF 'avocetlaw09.NamingParts'. -/
def namingPartsCard : Claim7 := { stood := { row := namingPartsRow, standIns := [], harness := (true, "19f6436deb8d875c1487576d8cb19d57643efb5f20d408a7afe7d5d572aad0f2"), looks := false }, kinds := [], alts := [], laidByText := true, laidKinds := [.data], laidTests := true, laidLooks := .later }
def NamingPartsCardSaid : Prop := Claim7.holds Tryd.pinned (.plain (OpenSpec.ofChange namingPartsSpec)) namingPartsCard

/-- THE TIED CARD OF 'avocetlaw24.GoastParts'. -/
def goastPartsCard : Claim7 := { stood := { row := goastPartsRow, standIns := [], harness := (true, "19f6436deb8d875c1487576d8cb19d57643efb5f20d408a7afe7d5d572aad0f2"), looks := false }, kinds := [], alts := [], laidByText := true, laidKinds := [.data, .data], laidTests := true, laidLooks := .later }
def GoastPartsCardSaid : Prop := Claim7.holds Tryd.pinned (.plain (OpenSpec.ofChange goastPartsSpec)) goastPartsCard

/-- THE TIED CARD OF 'avocetlaw30.MangleBack'. -/
def mangleBackCard : Claim7 := { stood := { row := mangleBackRow, standIns := [], harness := (true, "19f6436deb8d875c1487576d8cb19d57643efb5f20d408a7afe7d5d572aad0f2"), looks := false }, kinds := [], alts := [], laidByText := true, laidKinds := [.data, .data], laidTests := true, laidLooks := .later }
def MangleBackCardSaid : Prop := Claim7.holds Tryd.pinned (.plain (OpenSpec.ofChange mangleBackSpec)) mangleBackCard

/-- THE TIED CARD OF 'avocetlaw24.GoastIdents'. -/
def goastIdentsCard : Claim7 := { stood := { row := goastIdentsRow, standIns := [], harness := (true, "19f6436deb8d875c1487576d8cb19d57643efb5f20d408a7afe7d5d572aad0f2"), looks := false }, kinds := [], alts := [], laidByText := true, laidKinds := [.data, .data], laidTests := true, laidLooks := .later }
def GoastIdentsCardSaid : Prop := Claim7.holds Tryd.pinned (.plain (OpenSpec.ofChange goastIdentsSpec)) goastIdentsCard

/-- THE SECOND FORM's CARD OF 'avocetlaw23.GolexTakes'. -/
def golexTakesUptoCard : Claim7 := { stood := { row := golexTakesUptoRow, standIns := [], harness := (true, "19f6436deb8d875c1487576d8cb19d57643efb5f20d408a7afe7d5d572aad0f2"), looks := false }, kinds := [], alts := [], laidByText := true, laidKinds := [.data, .data], laidTests := true, laidLooks := .later }
def GolexTakesUptoCardSaid : Prop := Claim7.holds Tryd.pinned (.plain (OpenSpec.upto golexTakesSpec)) golexTakesUptoCard

/-- THE SECOND FORM's CARD OF 'avocetlaw23.GolexWhite'. -/
def golexWhiteUptoCard : Claim7 := { stood := { row := golexWhiteUptoRow, standIns := [], harness := (true, "19f6436deb8d875c1487576d8cb19d57643efb5f20d408a7afe7d5d572aad0f2"), looks := false }, kinds := [], alts := [], laidByText := true, laidKinds := [.data, .data], laidTests := true, laidLooks := .later }
def GolexWhiteUptoCardSaid : Prop := Claim7.holds Tryd.pinned (.plain (OpenSpec.upto golexWhiteSpec)) golexWhiteUptoCard

/-- THE SECOND FORM's CARD OF 'avocetlaw09.NamingAsks'. -/
def namingAsksUptoCard : Claim7 := { stood := { row := namingAsksUptoRow, standIns := [], harness := (true, "19f6436deb8d875c1487576d8cb19d57643efb5f20d408a7afe7d5d572aad0f2"), looks := false }, kinds := [], alts := [], laidByText := true, laidKinds := [.data], laidTests := true, laidLooks := .later }
def NamingAsksUptoCardSaid : Prop := Claim7.holds Tryd.pinned (.plain (OpenSpec.upto namingAsksSpec)) namingAsksUptoCard

/-- THE SECOND FORM's CARD OF 'avocetlaw09.NamingParts'. -/
def namingPartsUptoCard : Claim7 := { stood := { row := namingPartsUptoRow, standIns := [], harness := (true, "19f6436deb8d875c1487576d8cb19d57643efb5f20d408a7afe7d5d572aad0f2"), looks := false }, kinds := [], alts := [], laidByText := true, laidKinds := [.data], laidTests := true, laidLooks := .later }
def NamingPartsUptoCardSaid : Prop := Claim7.holds Tryd.pinned (.plain (OpenSpec.upto namingPartsSpec)) namingPartsUptoCard

/-- THE SECOND FORM's CARD OF 'avocetlaw24.GoastParts'. -/
def goastPartsUptoCard : Claim7 := { stood := { row := goastPartsUptoRow, standIns := [], harness := (true, "19f6436deb8d875c1487576d8cb19d57643efb5f20d408a7afe7d5d572aad0f2"), looks := false }, kinds := [], alts := [], laidByText := true, laidKinds := [.data, .data], laidTests := true, laidLooks := .later }
def GoastPartsUptoCardSaid : Prop := Claim7.holds Tryd.pinned (.plain (OpenSpec.upto goastPartsSpec)) goastPartsUptoCard

/-- THE SECOND FORM's CARD OF 'avocetlaw30.MangleBack'. -/
def mangleBackUptoCard : Claim7 := { stood := { row := mangleBackUptoRow, standIns := [], harness := (true, "19f6436deb8d875c1487576d8cb19d57643efb5f20d408a7afe7d5d572aad0f2"), looks := false }, kinds := [], alts := [], laidByText := true, laidKinds := [.data, .data], laidTests := true, laidLooks := .later }
def MangleBackUptoCardSaid : Prop := Claim7.holds Tryd.pinned (.plain (OpenSpec.upto mangleBackSpec)) mangleBackUptoCard

/-- THE SECOND FORM's CARD OF 'avocetlaw24.GoastIdents'. -/
def goastIdentsUptoCard : Claim7 := { stood := { row := goastIdentsUptoRow, standIns := [], harness := (true, "19f6436deb8d875c1487576d8cb19d57643efb5f20d408a7afe7d5d572aad0f2"), looks := false }, kinds := [], alts := [], laidByText := true, laidKinds := [.data, .data], laidTests := true, laidLooks := .later }
def GoastIdentsUptoCardSaid : Prop := Claim7.holds Tryd.pinned (.plain (OpenSpec.upto goastIdentsSpec)) goastIdentsUptoCard
end Rows
end Go.Proofs.YtaelanpmgckfkaaRRRRDoor
