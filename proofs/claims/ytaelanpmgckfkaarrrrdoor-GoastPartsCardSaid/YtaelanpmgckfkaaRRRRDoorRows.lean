/-
  NARROWER THAN 'FOR EVERY INPUT', by the rows' own cells (each row's printed sentence says how): GolexTakes: laid · GolexWhite: laid · NamingAsks: laid · NamingParts: laid · GoastParts: loops, laid · MangleBack: laid · GoastIdents: laid.
  DERIVED. THE GIVEN ROWS OF THIS SEAT. 7 by the template 'for every input the law returns true; each argument reads behind the call as it read before'; 0 by the template 'total and deterministic' (their statements: YtaelanpmgckfkaaRRRRDoorTotals.lean).
  GIVEN WITH THE SEED: the statements are not yours to turn. If you find one false, say at which input.
  Laid BY PROGRAM, IN A SANDBOX (cutbox-rows.mjs): the forced cells as the released guide's own fill.sh prints them over the translation 6ac79480bda56a9c… (all of the seat's roots in one cut). By AI agents, Wed Nov 11 2026. No macro, syntax, notation, axiom, sorry.
-/
import Derived.Test.YtaelanpmgckfkaaRRRRDoorChecked
import GoSem.Claim
import GoSem.ClaimJoined
import GoSem.ClaimMapViews
import Derived.JoinedTies
import Derived.KernelRfl
namespace Go.Proofs.YtaelanpmgckfkaaRRRRDoor
/- THE CELL 'sum', in the pinned program and in every row, IS THE sha256 OF THE DUMP (.gsa) THAT YtaelanpmgckfkaaRRRRDoorProg.lean LOADS. Nothing in Lean hashes anything: it is a label: what it is worth is what the hold of that sum in a sandbox is worth. -/
noncomputable def Tryd.pinned : Pinned := { name := "ytaelanpmgckfkaarrrrdoor", sum := "6ac79480bda56a9cf93fb87a9079574dc1cdd1544c2892f848af994e31fb8605", checked := Tryd.checked }
namespace Rows
def none {H : Type} : Left H := { results := [], args := [] }

/- WHAT THE LISTED PACKAGE-LEVEL VARIABLES READ AS WHEN THE CALL BEGINS. Each datum BY PROGRAM (the guide's laid-datum.mjs) off the statement by which the dump's own 'gosem.cut.vars' lays the variable. In a bare row this is a premise. The card (YtaelanpmgckfkaaRRRRDoorCards.lean) ties it to the program's text. -/
def laid_avocet_golex_signs {H : Type} : DataW H := .agg [.lit (.string [38, 38]), .lit (.string [124, 124]), .lit (.string [61, 61]), .lit (.string [33, 61]), .lit (.string [60, 61]), .lit (.string [62, 61]), .lit (.string [60, 60]), .lit (.string [62, 62]), .lit (.string [40]), .lit (.string [41]), .lit (.string [123]), .lit (.string [125]), .lit (.string [91]), .lit (.string [93]), .lit (.string [44]), .lit (.string [46]), .lit (.string [58]), .lit (.string [61]), .lit (.string [60]), .lit (.string [62]), .lit (.string [43]), .lit (.string [45]), .lit (.string [42]), .lit (.string [47]), .lit (.string [37]), .lit (.string [38]), .lit (.string [124]), .lit (.string [94]), .lit (.string [33])]
def laid_avocet_golex_keys {H : Type} : DataW H := .agg [.lit (.string [97, 112, 112, 101, 110, 100]), .lit (.string [98, 111, 111, 108]), .lit (.string [98, 121, 116, 101]), .lit (.string [99, 97, 115, 101]), .lit (.string [100, 101, 102, 97, 117, 108, 116]), .lit (.string [101, 108, 115, 101]), .lit (.string [102, 97, 108, 115, 101]), .lit (.string [102, 111, 114]), .lit (.string [102, 117, 110, 99]), .lit (.string [105, 102]), .lit (.string [105, 110, 116]), .lit (.string [105, 110, 116, 51, 50]), .lit (.string [108, 101, 110]), .lit (.string [112, 97, 99, 107, 97, 103, 101]), .lit (.string [114, 101, 116, 117, 114, 110]), .lit (.string [115, 116, 114, 117, 99, 116]), .lit (.string [115, 119, 105, 116, 99, 104]), .lit (.string [116, 114, 117, 101]), .lit (.string [116, 121, 112, 101]), .lit (.string [117, 105, 110, 116, 51, 50]), .lit (.string [117, 105, 110, 116, 54, 52]), .lit (.string [118, 97, 114])]
def laid_avocet_naming_words {H : Type} : DataW H := .agg [.lit (.string []), .lit (.string [110, 117, 108, 108]), .lit (.string [98, 111, 111, 108, 101, 97, 110]), .lit (.string [105, 110, 116]), .lit (.string [108, 111, 110, 103]), .lit (.string [102, 108, 111, 97, 116]), .lit (.string [100, 111, 117, 98, 108, 101]), .lit (.string [98, 121, 116, 101, 115]), .lit (.string [115, 116, 114, 105, 110, 103]), .lit (.string [114, 101, 99, 111, 114, 100]), .lit (.string [101, 110, 117, 109]), .lit (.string [97, 114, 114, 97, 121]), .lit (.string [109, 97, 112]), .lit (.string []), .lit (.string [102, 105, 120, 101, 100])]

/-- 'avocetlaw23.GolexTakes': WHATEVER THE INPUT: true; the input reads as it did. -/
def golexTakesSpec : ChangeSpec := { name := "golexTakes", fn := fun _ => fun
  | [d1, d2, d3] => { results := [.lit (.bool true)], args := [d1, d2, d3] }
  | _ => none }
def golexTakesRow : OpenClaim := { program := "ytaelanpmgckfkaarrrrdoor", sum := "6ac79480bda56a9cf93fb87a9079574dc1cdd1544c2892f848af994e31fb8605", func := "avocet/avocetlaw23.GolexTakes", spec := "golexTakes", unfollowed := true, recurses := true, named := ["avocet/golex.signs", "avocet/golex.keys"], apart := false, laid := [("avocet/golex.signs", laid_avocet_golex_signs), ("avocet/golex.keys", laid_avocet_golex_keys)] }
def GolexTakesSaid : Prop := golexTakesRow.holds Tryd.pinned (OpenSpec.ofChange golexTakesSpec)

/-- ITS FALSE NEIGHBOUR: 'it returns false'. Refute it at one input. -/
def golexTakesWrong : ChangeSpec := { name := "golexTakes", fn := fun _ => fun
  | [d1, d2, d3] => { results := [.lit (.bool false)], args := [d1, d2, d3] }
  | _ => none }
def GolexTakesWrongFalsely : Prop := golexTakesRow.holds Tryd.pinned (OpenSpec.ofChange golexTakesWrong)

/-- 'avocetlaw23.GolexWhite': WHATEVER THE INPUT: true; the input reads as it did. -/
def golexWhiteSpec : ChangeSpec := { name := "golexWhite", fn := fun _ => fun
  | [d1, d2] => { results := [.lit (.bool true)], args := [d1, d2] }
  | _ => none }
def golexWhiteRow : OpenClaim := { program := "ytaelanpmgckfkaarrrrdoor", sum := "6ac79480bda56a9cf93fb87a9079574dc1cdd1544c2892f848af994e31fb8605", func := "avocet/avocetlaw23.GolexWhite", spec := "golexWhite", unfollowed := true, recurses := true, named := ["avocet/golex.signs", "avocet/golex.keys"], apart := false, laid := [("avocet/golex.signs", laid_avocet_golex_signs), ("avocet/golex.keys", laid_avocet_golex_keys)] }
def GolexWhiteSaid : Prop := golexWhiteRow.holds Tryd.pinned (OpenSpec.ofChange golexWhiteSpec)

/-- ITS FALSE NEIGHBOUR: 'it returns false'. Refute it at one input. -/
def golexWhiteWrong : ChangeSpec := { name := "golexWhite", fn := fun _ => fun
  | [d1, d2] => { results := [.lit (.bool false)], args := [d1, d2] }
  | _ => none }
def GolexWhiteWrongFalsely : Prop := golexWhiteRow.holds Tryd.pinned (OpenSpec.ofChange golexWhiteWrong)

/-- 'avocetlaw09.NamingAsks': WHATEVER THE INPUT: true; the input reads as it did. -/
def namingAsksSpec : ChangeSpec := { name := "namingAsks", fn := fun _ => fun
  | [d1, d2] => { results := [.lit (.bool true)], args := [d1, d2] }
  | _ => none }
def namingAsksRow : OpenClaim := { program := "ytaelanpmgckfkaarrrrdoor", sum := "6ac79480bda56a9cf93fb87a9079574dc1cdd1544c2892f848af994e31fb8605", func := "avocet/avocetlaw09.NamingAsks", spec := "namingAsks", inPlace := ["internal/bytealg.IndexByteString", "internal/bytealg.IndexString"], named := ["internal/bytealg.MaxLen", "avocet/naming.words"], apart := false, laid := [("avocet/naming.words", laid_avocet_naming_words)] }
def NamingAsksSaid : Prop := namingAsksRow.holds Tryd.pinned (OpenSpec.ofChange namingAsksSpec)

/-- ITS FALSE NEIGHBOUR: 'it returns false'. Refute it at one input. -/
def namingAsksWrong : ChangeSpec := { name := "namingAsks", fn := fun _ => fun
  | [d1, d2] => { results := [.lit (.bool false)], args := [d1, d2] }
  | _ => none }
def NamingAsksWrongFalsely : Prop := namingAsksRow.holds Tryd.pinned (OpenSpec.ofChange namingAsksWrong)

/-- 'avocetlaw09.NamingParts': WHATEVER THE INPUT: true; the input reads as it did. -/
def namingPartsSpec : ChangeSpec := { name := "namingParts", fn := fun _ => fun
  | [d1, d2, d3] => { results := [.lit (.bool true)], args := [d1, d2, d3] }
  | _ => none }
def namingPartsRow : OpenClaim := { program := "ytaelanpmgckfkaarrrrdoor", sum := "6ac79480bda56a9cf93fb87a9079574dc1cdd1544c2892f848af994e31fb8605", func := "avocet/avocetlaw09.NamingParts", spec := "namingParts", inPlace := ["internal/bytealg.IndexByteString", "internal/bytealg.IndexString"], named := ["internal/bytealg.MaxLen", "avocet/naming.words"], apart := false, laid := [("avocet/naming.words", laid_avocet_naming_words)] }
def NamingPartsSaid : Prop := namingPartsRow.holds Tryd.pinned (OpenSpec.ofChange namingPartsSpec)

/-- ITS FALSE NEIGHBOUR: 'it returns false'. Refute it at one input. -/
def namingPartsWrong : ChangeSpec := { name := "namingParts", fn := fun _ => fun
  | [d1, d2, d3] => { results := [.lit (.bool false)], args := [d1, d2, d3] }
  | _ => none }
def NamingPartsWrongFalsely : Prop := namingPartsRow.holds Tryd.pinned (OpenSpec.ofChange namingPartsWrong)

/-- 'avocetlaw24.GoastParts': WHATEVER THE INPUT: true; the input reads as it did. -/
def goastPartsSpec : ChangeSpec := { name := "goastParts", fn := fun _ => fun
  | [d] => { results := [.lit (.bool true)], args := [d] }
  | _ => none }
def goastPartsRow : OpenClaim := { program := "ytaelanpmgckfkaarrrrdoor", sum := "6ac79480bda56a9cf93fb87a9079574dc1cdd1544c2892f848af994e31fb8605", func := "avocet/avocetlaw24.GoastParts", spec := "goastParts", unfollowed := true, recurses := true, named := ["avocet/golex.signs", "avocet/golex.keys"], loops := true, apart := false, laid := [("avocet/golex.signs", laid_avocet_golex_signs), ("avocet/golex.keys", laid_avocet_golex_keys)] }
def GoastPartsSaid : Prop := goastPartsRow.holds Tryd.pinned (OpenSpec.ofChange goastPartsSpec)

/-- ITS FALSE NEIGHBOUR: 'it returns false'. Refute it at one input. -/
def goastPartsWrong : ChangeSpec := { name := "goastParts", fn := fun _ => fun
  | [d] => { results := [.lit (.bool false)], args := [d] }
  | _ => none }
def GoastPartsWrongFalsely : Prop := goastPartsRow.holds Tryd.pinned (OpenSpec.ofChange goastPartsWrong)

/-- 'avocetlaw30.MangleBack': WHATEVER THE INPUT: true; the input reads as it did. -/
def mangleBackSpec : ChangeSpec := { name := "mangleBack", fn := fun _ => fun
  | [d1, d2] => { results := [.lit (.bool true)], args := [d1, d2] }
  | _ => none }
def mangleBackRow : OpenClaim := { program := "ytaelanpmgckfkaarrrrdoor", sum := "6ac79480bda56a9cf93fb87a9079574dc1cdd1544c2892f848af994e31fb8605", func := "avocet/avocetlaw30.MangleBack", spec := "mangleBack", inPlace := ["internal/bytealg.IndexByteString", "internal/bytealg.IndexString"], unfollowed := true, recurses := true, named := ["internal/bytealg.MaxLen", "avocet/golex.signs", "avocet/golex.keys"], apart := false, laid := [("avocet/golex.signs", laid_avocet_golex_signs), ("avocet/golex.keys", laid_avocet_golex_keys)] }
def MangleBackSaid : Prop := mangleBackRow.holds Tryd.pinned (OpenSpec.ofChange mangleBackSpec)

/-- ITS FALSE NEIGHBOUR: 'it returns false'. Refute it at one input. -/
def mangleBackWrong : ChangeSpec := { name := "mangleBack", fn := fun _ => fun
  | [d1, d2] => { results := [.lit (.bool false)], args := [d1, d2] }
  | _ => none }
def MangleBackWrongFalsely : Prop := mangleBackRow.holds Tryd.pinned (OpenSpec.ofChange mangleBackWrong)

/-- 'avocetlaw24.GoastIdents': WHATEVER THE INPUT: true; the input reads as it did. -/
def goastIdentsSpec : ChangeSpec := { name := "goastIdents", fn := fun _ => fun
  | [d] => { results := [.lit (.bool true)], args := [d] }
  | _ => none }
def goastIdentsRow : OpenClaim := { program := "ytaelanpmgckfkaarrrrdoor", sum := "6ac79480bda56a9cf93fb87a9079574dc1cdd1544c2892f848af994e31fb8605", func := "avocet/avocetlaw24.GoastIdents", spec := "goastIdents", unfollowed := true, recurses := true, named := ["avocet/golex.signs", "avocet/golex.keys"], apart := false, laid := [("avocet/golex.signs", laid_avocet_golex_signs), ("avocet/golex.keys", laid_avocet_golex_keys)] }
def GoastIdentsSaid : Prop := goastIdentsRow.holds Tryd.pinned (OpenSpec.ofChange goastIdentsSpec)

/-- ITS FALSE NEIGHBOUR: 'it returns false'. Refute it at one input. -/
def goastIdentsWrong : ChangeSpec := { name := "goastIdents", fn := fun _ => fun
  | [d] => { results := [.lit (.bool false)], args := [d] }
  | _ => none }
def GoastIdentsWrongFalsely : Prop := goastIdentsRow.holds Tryd.pinned (OpenSpec.ofChange goastIdentsWrong)

/- THE SECOND FORM. 'bulk': how many values and letters a reading holds, each counted each time it is reached (what is shared counts as often as it is met; a slice's spare places count too). A statement '..UptoSaid' is the law's where the arguments, and the package variables that the reading takes, are together of bulk at most 1048576: NARROWER than '..Said'. Prove '..Said' where nothing that the law and all that it calls make is longer than what came in: it says more and counts as full. Else prove '..UptoSaid'. A law counts once. -/
mutual
def uptoBulk {H : Type} : DataW H → Nat
  | .lit (.string bytes) => bytes.length + 1
  | .lit _ => 1
  | .nil => 1
  | .ptr d => uptoBulk d + 1
  | .slice elems spare => uptoBulkAll elems + uptoBulkAll spare + 1
  | .agg parts => uptoBulkAll parts + 1
  | .iface _ d => uptoBulk d + 1
  | .map entries => uptoBulkEntries entries + 1
  | .held _ => 1
def uptoBulkAll {H : Type} : List (DataW H) → Nat
  | [] => 0
  | d :: r => uptoBulk d + uptoBulkAll r
def uptoBulkEntries {H : Type} : List (Lit × DataW H) → Nat
  | [] => 0
  | x :: r => uptoBulkEntry x + uptoBulkEntries r
def uptoBulkEntry {H : Type} : Lit × DataW H → Nat
  | (.string bytes, d) => bytes.length + uptoBulk d + 1
  | (_, d) => uptoBulk d + 1
 end
def uptoSmall : (H : Type) → List (DataW H) → Bool := fun _ ds => decide (uptoBulkAll ds ≤ 1048576)
def OpenSpec.upto (s : _root_.Go.ChangeSpec) : _root_.Go.OpenSpec := { _root_.Go.OpenSpec.ofChange s with cond := some uptoSmall }

/-- 'avocetlaw23.GolexTakes', WHERE WHAT IT READS IS OF BULK AT MOST 1048576: true; the input reads as it did. -/
def golexTakesUptoRow : OpenClaim := { program := "ytaelanpmgckfkaarrrrdoor", sum := "6ac79480bda56a9cf93fb87a9079574dc1cdd1544c2892f848af994e31fb8605", func := "avocet/avocetlaw23.GolexTakes", spec := "golexTakes", unfollowed := true, recurses := true, named := ["avocet/golex.signs", "avocet/golex.keys"], apart := false, laid := [("avocet/golex.signs", laid_avocet_golex_signs), ("avocet/golex.keys", laid_avocet_golex_keys)], narrowed := true }
def GolexTakesUptoSaid : Prop := golexTakesUptoRow.holds Tryd.pinned (OpenSpec.upto golexTakesSpec)

/-- 'avocetlaw23.GolexWhite', WHERE WHAT IT READS IS OF BULK AT MOST 1048576: true; the input reads as it did. -/
def golexWhiteUptoRow : OpenClaim := { program := "ytaelanpmgckfkaarrrrdoor", sum := "6ac79480bda56a9cf93fb87a9079574dc1cdd1544c2892f848af994e31fb8605", func := "avocet/avocetlaw23.GolexWhite", spec := "golexWhite", unfollowed := true, recurses := true, named := ["avocet/golex.signs", "avocet/golex.keys"], apart := false, laid := [("avocet/golex.signs", laid_avocet_golex_signs), ("avocet/golex.keys", laid_avocet_golex_keys)], narrowed := true }
def GolexWhiteUptoSaid : Prop := golexWhiteUptoRow.holds Tryd.pinned (OpenSpec.upto golexWhiteSpec)

/-- 'avocetlaw09.NamingAsks', WHERE WHAT IT READS IS OF BULK AT MOST 1048576: true; the input reads as it did. -/
def namingAsksUptoRow : OpenClaim := { program := "ytaelanpmgckfkaarrrrdoor", sum := "6ac79480bda56a9cf93fb87a9079574dc1cdd1544c2892f848af994e31fb8605", func := "avocet/avocetlaw09.NamingAsks", spec := "namingAsks", inPlace := ["internal/bytealg.IndexByteString", "internal/bytealg.IndexString"], named := ["internal/bytealg.MaxLen", "avocet/naming.words"], apart := false, laid := [("avocet/naming.words", laid_avocet_naming_words)], narrowed := true }
def NamingAsksUptoSaid : Prop := namingAsksUptoRow.holds Tryd.pinned (OpenSpec.upto namingAsksSpec)

/-- 'avocetlaw09.NamingParts', WHERE WHAT IT READS IS OF BULK AT MOST 1048576: true; the input reads as it did. -/
def namingPartsUptoRow : OpenClaim := { program := "ytaelanpmgckfkaarrrrdoor", sum := "6ac79480bda56a9cf93fb87a9079574dc1cdd1544c2892f848af994e31fb8605", func := "avocet/avocetlaw09.NamingParts", spec := "namingParts", inPlace := ["internal/bytealg.IndexByteString", "internal/bytealg.IndexString"], named := ["internal/bytealg.MaxLen", "avocet/naming.words"], apart := false, laid := [("avocet/naming.words", laid_avocet_naming_words)], narrowed := true }
def NamingPartsUptoSaid : Prop := namingPartsUptoRow.holds Tryd.pinned (OpenSpec.upto namingPartsSpec)

/-- 'avocetlaw24.GoastParts', WHERE WHAT IT READS IS OF BULK AT MOST 1048576: true; the input reads as it did. -/
def goastPartsUptoRow : OpenClaim := { program := "ytaelanpmgckfkaarrrrdoor", sum := "6ac79480bda56a9cf93fb87a9079574dc1cdd1544c2892f848af994e31fb8605", func := "avocet/avocetlaw24.GoastParts", spec := "goastParts", unfollowed := true, recurses := true, named := ["avocet/golex.signs", "avocet/golex.keys"], loops := true, apart := false, laid := [("avocet/golex.signs", laid_avocet_golex_signs), ("avocet/golex.keys", laid_avocet_golex_keys)], narrowed := true }
def GoastPartsUptoSaid : Prop := goastPartsUptoRow.holds Tryd.pinned (OpenSpec.upto goastPartsSpec)

/-- 'avocetlaw30.MangleBack', WHERE WHAT IT READS IS OF BULK AT MOST 1048576: true; the input reads as it did. -/
def mangleBackUptoRow : OpenClaim := { program := "ytaelanpmgckfkaarrrrdoor", sum := "6ac79480bda56a9cf93fb87a9079574dc1cdd1544c2892f848af994e31fb8605", func := "avocet/avocetlaw30.MangleBack", spec := "mangleBack", inPlace := ["internal/bytealg.IndexByteString", "internal/bytealg.IndexString"], unfollowed := true, recurses := true, named := ["internal/bytealg.MaxLen", "avocet/golex.signs", "avocet/golex.keys"], apart := false, laid := [("avocet/golex.signs", laid_avocet_golex_signs), ("avocet/golex.keys", laid_avocet_golex_keys)], narrowed := true }
def MangleBackUptoSaid : Prop := mangleBackUptoRow.holds Tryd.pinned (OpenSpec.upto mangleBackSpec)

/-- 'avocetlaw24.GoastIdents', WHERE WHAT IT READS IS OF BULK AT MOST 1048576: true; the input reads as it did. -/
def goastIdentsUptoRow : OpenClaim := { program := "ytaelanpmgckfkaarrrrdoor", sum := "6ac79480bda56a9cf93fb87a9079574dc1cdd1544c2892f848af994e31fb8605", func := "avocet/avocetlaw24.GoastIdents", spec := "goastIdents", unfollowed := true, recurses := true, named := ["avocet/golex.signs", "avocet/golex.keys"], apart := false, laid := [("avocet/golex.signs", laid_avocet_golex_signs), ("avocet/golex.keys", laid_avocet_golex_keys)], narrowed := true }
def GoastIdentsUptoSaid : Prop := goastIdentsUptoRow.holds Tryd.pinned (OpenSpec.upto goastIdentsSpec)

end Rows
end Go.Proofs.YtaelanpmgckfkaaRRRRDoor
