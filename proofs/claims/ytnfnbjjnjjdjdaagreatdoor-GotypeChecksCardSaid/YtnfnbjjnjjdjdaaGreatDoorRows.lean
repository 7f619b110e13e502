/-
  NARROWER THAN 'FOR EVERY INPUT', by the rows' own cells (each row's printed sentence says how): GotypeChecks: loops, laid · GotypeKinds: laid · GotypeBare: loops, laid · GotypeMore: loops, laid.
  DERIVED. THE GIVEN ROWS OF THIS SEAT. 4 by the template 'for every input the law returns true; each argument reads behind the call as it read before'; 0 by the template 'total and deterministic' (their statements: YtnfnbjjnjjdjdaaGreatDoorTotals.lean).
  GIVEN WITH THE SEED: the statements are not yours to turn. If you find one false, say at which input.
  Laid BY PROGRAM, IN A SANDBOX (cutbox-rows.mjs): the forced cells as the released guide's own fill.sh prints them over the translation d5a737482518a213… (all of the seat's roots in one cut). By AI agents, Wed Nov 11 2026. No macro, syntax, notation, axiom, sorry.
-/
import Derived.Test.YtnfnbjjnjjdjdaaGreatDoorChecked
import GoSem.Claim
import GoSem.ClaimJoined
import GoSem.ClaimMapViews
import Derived.JoinedTies
import Derived.KernelRfl
namespace Go.Proofs.YtnfnbjjnjjdjdaaGreatDoor
/- THE CELL 'sum', in the pinned program and in every row, IS THE sha256 OF THE DUMP (.gsa) THAT YtnfnbjjnjjdjdaaGreatDoorProg.lean LOADS. Nothing in Lean hashes anything: it is a label: what it is worth is what the hold of that sum in a sandbox is worth. -/
noncomputable def Tryz.pinned : Pinned := { name := "ytnfnbjjnjjdjdaagreatdoor", sum := "d5a737482518a213e04e50ee3f27bfefbfdfb78ca1072f3d653aa03bf783485f", checked := Tryz.checked }
namespace Rows
def none {H : Type} : Left H := { results := [], args := [] }

/- WHAT THE LISTED PACKAGE-LEVEL VARIABLES READ AS WHEN THE CALL BEGINS. Each datum BY PROGRAM (the guide's laid-datum.mjs) off the statement by which the dump's own 'gosem.cut.vars' lays the variable. In a bare row this is a premise. The card (YtnfnbjjnjjdjdaaGreatDoorCards.lean) ties it to the program's text. -/
def laid_avocet_golex_signs {H : Type} : DataW H := .agg [.lit (.string [38, 38]), .lit (.string [124, 124]), .lit (.string [61, 61]), .lit (.string [33, 61]), .lit (.string [60, 61]), .lit (.string [62, 61]), .lit (.string [60, 60]), .lit (.string [62, 62]), .lit (.string [40]), .lit (.string [41]), .lit (.string [123]), .lit (.string [125]), .lit (.string [91]), .lit (.string [93]), .lit (.string [44]), .lit (.string [46]), .lit (.string [58]), .lit (.string [61]), .lit (.string [60]), .lit (.string [62]), .lit (.string [43]), .lit (.string [45]), .lit (.string [42]), .lit (.string [47]), .lit (.string [37]), .lit (.string [38]), .lit (.string [124]), .lit (.string [94]), .lit (.string [33])]
def laid_avocet_golex_keys {H : Type} : DataW H := .agg [.lit (.string [97, 112, 112, 101, 110, 100]), .lit (.string [98, 111, 111, 108]), .lit (.string [98, 121, 116, 101]), .lit (.string [99, 97, 115, 101]), .lit (.string [100, 101, 102, 97, 117, 108, 116]), .lit (.string [101, 108, 115, 101]), .lit (.string [102, 97, 108, 115, 101]), .lit (.string [102, 111, 114]), .lit (.string [102, 117, 110, 99]), .lit (.string [105, 102]), .lit (.string [105, 110, 116]), .lit (.string [105, 110, 116, 51, 50]), .lit (.string [108, 101, 110]), .lit (.string [112, 97, 99, 107, 97, 103, 101]), .lit (.string [114, 101, 116, 117, 114, 110]), .lit (.string [115, 116, 114, 117, 99, 116]), .lit (.string [115, 119, 105, 116, 99, 104]), .lit (.string [116, 114, 117, 101]), .lit (.string [116, 121, 112, 101]), .lit (.string [117, 105, 110, 116, 51, 50]), .lit (.string [117, 105, 110, 116, 54, 52]), .lit (.string [118, 97, 114])]

/-- 'avocetlaw27.GotypeChecks': WHATEVER THE INPUT: true; the input reads as it did. -/
def gotypeChecksSpec : ChangeSpec := { name := "gotypeChecks", fn := fun _ => fun
  | [d] => { results := [.lit (.bool true)], args := [d] }
  | _ => none }
def gotypeChecksRow : OpenClaim := { program := "ytnfnbjjnjjdjdaagreatdoor", sum := "d5a737482518a213e04e50ee3f27bfefbfdfb78ca1072f3d653aa03bf783485f", func := "avocet/avocetlaw27.GotypeChecks", spec := "gotypeChecks", unfollowed := true, recurses := true, named := ["avocet/golex.signs", "avocet/golex.keys"], loops := true, apart := false, laid := [("avocet/golex.signs", laid_avocet_golex_signs), ("avocet/golex.keys", laid_avocet_golex_keys)] }
def GotypeChecksSaid : Prop := gotypeChecksRow.holds Tryz.pinned (OpenSpec.ofChange gotypeChecksSpec)

/-- ITS FALSE NEIGHBOUR: 'it returns false'. Refute it at one input. -/
def gotypeChecksWrong : ChangeSpec := { name := "gotypeChecks", fn := fun _ => fun
  | [d] => { results := [.lit (.bool false)], args := [d] }
  | _ => none }
def GotypeChecksWrongFalsely : Prop := gotypeChecksRow.holds Tryz.pinned (OpenSpec.ofChange gotypeChecksWrong)

/-- 'avocetlaw27.GotypeKinds': WHATEVER THE INPUT: true; the input reads as it did. -/
def gotypeKindsSpec : ChangeSpec := { name := "gotypeKinds", fn := fun _ => fun
  | [d] => { results := [.lit (.bool true)], args := [d] }
  | _ => none }
def gotypeKindsRow : OpenClaim := { program := "ytnfnbjjnjjdjdaagreatdoor", sum := "d5a737482518a213e04e50ee3f27bfefbfdfb78ca1072f3d653aa03bf783485f", func := "avocet/avocetlaw27.GotypeKinds", spec := "gotypeKinds", unfollowed := true, recurses := true, named := ["avocet/golex.signs", "avocet/golex.keys"], apart := false, laid := [("avocet/golex.signs", laid_avocet_golex_signs), ("avocet/golex.keys", laid_avocet_golex_keys)] }
def GotypeKindsSaid : Prop := gotypeKindsRow.holds Tryz.pinned (OpenSpec.ofChange gotypeKindsSpec)

/-- ITS FALSE NEIGHBOUR: 'it returns false'. Refute it at one input. -/
def gotypeKindsWrong : ChangeSpec := { name := "gotypeKinds", fn := fun _ => fun
  | [d] => { results := [.lit (.bool false)], args := [d] }
  | _ => none }
def GotypeKindsWrongFalsely : Prop := gotypeKindsRow.holds Tryz.pinned (OpenSpec.ofChange gotypeKindsWrong)

/-- 'avocetlaw27.GotypeBare': WHATEVER THE INPUT: true; the input reads as it did. -/
def gotypeBareSpec : ChangeSpec := { name := "gotypeBare", fn := fun _ => fun
  | [d] => { results := [.lit (.bool true)], args := [d] }
  | _ => none }
def gotypeBareRow : OpenClaim := { program := "ytnfnbjjnjjdjdaagreatdoor", sum := "d5a737482518a213e04e50ee3f27bfefbfdfb78ca1072f3d653aa03bf783485f", func := "avocet/avocetlaw27.GotypeBare", spec := "gotypeBare", unfollowed := true, recurses := true, named := ["avocet/golex.signs", "avocet/golex.keys"], loops := true, apart := false, laid := [("avocet/golex.signs", laid_avocet_golex_signs), ("avocet/golex.keys", laid_avocet_golex_keys)] }
def GotypeBareSaid : Prop := gotypeBareRow.holds Tryz.pinned (OpenSpec.ofChange gotypeBareSpec)

/-- ITS FALSE NEIGHBOUR: 'it returns false'. Refute it at one input. -/
def gotypeBareWrong : ChangeSpec := { name := "gotypeBare", fn := fun _ => fun
  | [d] => { results := [.lit (.bool false)], args := [d] }
  | _ => none }
def GotypeBareWrongFalsely : Prop := gotypeBareRow.holds Tryz.pinned (OpenSpec.ofChange gotypeBareWrong)

/-- 'avocetlaw27.GotypeMore': WHATEVER THE INPUT: true; the input reads as it did. -/
def gotypeMoreSpec : ChangeSpec := { name := "gotypeMore", fn := fun _ => fun
  | [d1, d2] => { results := [.lit (.bool true)], args := [d1, d2] }
  | _ => none }
def gotypeMoreRow : OpenClaim := { program := "ytnfnbjjnjjdjdaagreatdoor", sum := "d5a737482518a213e04e50ee3f27bfefbfdfb78ca1072f3d653aa03bf783485f", func := "avocet/avocetlaw27.GotypeMore", spec := "gotypeMore", unfollowed := true, recurses := true, named := ["avocet/golex.signs", "avocet/golex.keys"], loops := true, apart := false, laid := [("avocet/golex.signs", laid_avocet_golex_signs), ("avocet/golex.keys", laid_avocet_golex_keys)] }
def GotypeMoreSaid : Prop := gotypeMoreRow.holds Tryz.pinned (OpenSpec.ofChange gotypeMoreSpec)

/-- ITS FALSE NEIGHBOUR: 'it returns false'. Refute it at one input. -/
def gotypeMoreWrong : ChangeSpec := { name := "gotypeMore", fn := fun _ => fun
  | [d1, d2] => { results := [.lit (.bool false)], args := [d1, d2] }
  | _ => none }
def GotypeMoreWrongFalsely : Prop := gotypeMoreRow.holds Tryz.pinned (OpenSpec.ofChange gotypeMoreWrong)

/- THE SECOND FORM. 'bulk': how many values and letters a reading holds, each counted each time it is reached (what is shared counts as often as it is met; a slice's spare places count too). A statement '..UptoSaid' is the law's where the arguments, and the package variables that the reading takes, are together of bulk at most 1048576: NARROWER than '..Said'. Prove '..Said' where nothing that the law and all that it calls make is longer than what came in: it says more and counts as full. Else prove '..UptoSaid'. A law counts once. -/
mutual
def uptoBulk {H : Type} : DataW H → Nat
  | .lit (.string bytes) => bytes.length + 1
  | .lit _ => 1
  | .nil => 1
  | .ptr d => uptoBulk d + 1
  | .slice elems spare => uptoBulkAll elems + uptoBulkAll spare + 1
  | .agg parts => uptoBulkAll parts + 1
  | .iface _ d => uptoBulk d + 1
  | .map entries => uptoBulkEntries entries + 1
  | .held _ => 1
def uptoBulkAll {H : Type} : List (DataW H) → Nat
  | [] => 0
  | d :: r => uptoBulk d + uptoBulkAll r
def uptoBulkEntries {H : Type} : List (Lit × DataW H) → Nat
  | [] => 0
  | x :: r => uptoBulkEntry x + uptoBulkEntries r
def uptoBulkEntry {H : Type} : Lit × DataW H → Nat
  | (.string bytes, d) => bytes.length + uptoBulk d + 1
  | (_, d) => uptoBulk d + 1
 end
def uptoSmall : (H : Type) → List (DataW H) → Bool := fun _ ds => decide (uptoBulkAll ds ≤ 1048576)
def OpenSpec.upto (s : _root_.Go.ChangeSpec) : _root_.Go.OpenSpec := { _root_.Go.OpenSpec.ofChange s with cond := some uptoSmall }

/-- 'avocetlaw27.GotypeChecks', WHERE WHAT IT READS IS OF BULK AT MOST 1048576: true; the input reads as it did. -/
def gotypeChecksUptoRow : OpenClaim := { program := "ytnfnbjjnjjdjdaagreatdoor", sum := "d5a737482518a213e04e50ee3f27bfefbfdfb78ca1072f3d653aa03bf783485f", func := "avocet/avocetlaw27.GotypeChecks", spec := "gotypeChecks", unfollowed := true, recurses := true, named := ["avocet/golex.signs", "avocet/golex.keys"], loops := true, apart := false, laid := [("avocet/golex.signs", laid_avocet_golex_signs), ("avocet/golex.keys", laid_avocet_golex_keys)], narrowed := true }
def GotypeChecksUptoSaid : Prop := gotypeChecksUptoRow.holds Tryz.pinned (OpenSpec.upto gotypeChecksSpec)

/-- 'avocetlaw27.GotypeKinds', WHERE WHAT IT READS IS OF BULK AT MOST 1048576: true; the input reads as it did. -/
def gotypeKindsUptoRow : OpenClaim := { program := "ytnfnbjjnjjdjdaagreatdoor", sum := "d5a737482518a213e04e50ee3f27bfefbfdfb78ca1072f3d653aa03bf783485f", func := "avocet/avocetlaw27.GotypeKinds", spec := "gotypeKinds", unfollowed := true, recurses := true, named := ["avocet/golex.signs", "avocet/golex.keys"], apart := false, laid := [("avocet/golex.signs", laid_avocet_golex_signs), ("avocet/golex.keys", laid_avocet_golex_keys)], narrowed := true }
def GotypeKindsUptoSaid : Prop := gotypeKindsUptoRow.holds Tryz.pinned (OpenSpec.upto gotypeKindsSpec)

/-- 'avocetlaw27.GotypeBare', WHERE WHAT IT READS IS OF BULK AT MOST 1048576: true; the input reads as it did. -/
def gotypeBareUptoRow : OpenClaim := { program := "ytnfnbjjnjjdjdaagreatdoor", sum := "d5a737482518a213e04e50ee3f27bfefbfdfb78ca1072f3d653aa03bf783485f", func := "avocet/avocetlaw27.GotypeBare", spec := "gotypeBare", unfollowed := true, recurses := true, named := ["avocet/golex.signs", "avocet/golex.keys"], loops := true, apart := false, laid := [("avocet/golex.signs", laid_avocet_golex_signs), ("avocet/golex.keys", laid_avocet_golex_keys)], narrowed := true }
def GotypeBareUptoSaid : Prop := gotypeBareUptoRow.holds Tryz.pinned (OpenSpec.upto gotypeBareSpec)

/-- 'avocetlaw27.GotypeMore', WHERE WHAT IT READS IS OF BULK AT MOST 1048576: true; the input reads as it did. -/
def gotypeMoreUptoRow : OpenClaim := { program := "ytnfnbjjnjjdjdaagreatdoor", sum := "d5a737482518a213e04e50ee3f27bfefbfdfb78ca1072f3d653aa03bf783485f", func := "avocet/avocetlaw27.GotypeMore", spec := "gotypeMore", unfollowed := true, recurses := true, named := ["avocet/golex.signs", "avocet/golex.keys"], loops := true, apart := false, laid := [("avocet/golex.signs", laid_avocet_golex_signs), ("avocet/golex.keys", laid_avocet_golex_keys)], narrowed := true }
def GotypeMoreUptoSaid : Prop := gotypeMoreUptoRow.holds Tryz.pinned (OpenSpec.upto gotypeMoreSpec)

end Rows
end Go.Proofs.YtnfnbjjnjjdjdaaGreatDoor
