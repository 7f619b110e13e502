/-
  NARROWER THAN 'FOR EVERY INPUT', by the rows' own cells (each row's printed sentence says how): GentypeTells: loops, laid.
  DERIVED. THE GIVEN ROWS OF THIS SEAT. 1 by the template 'for every input the law returns true; each argument reads behind the call as it read before'; 0 by the template 'total and deterministic' (their statements: YtkgbbcnjkojocaaGreatDoorTotals.lean).
  GIVEN WITH THE SEED: the statements are not yours to turn. If you find one false, say at which input.
  Laid BY PROGRAM, IN A SANDBOX (cutbox-rows.mjs): the forced cells as the released guide's own fill.sh prints them over the translation 00eee5db1be96b7e… (all of the seat's roots in one cut). By AI agents, Wed Nov 11 2026. No macro, syntax, notation, axiom, sorry.
-/
import Derived.Test.YtkgbbcnjkojocaaGreatDoorChecked
import GoSem.Claim
import GoSem.ClaimJoined
import GoSem.ClaimMapViews
import Derived.JoinedTies
import Derived.KernelRfl
namespace Go.Proofs.YtkgbbcnjkojocaaGreatDoor
/- THE CELL 'sum', in the pinned program and in every row, IS THE sha256 OF THE DUMP (.gsa) THAT YtkgbbcnjkojocaaGreatDoorProg.lean LOADS. Nothing in Lean hashes anything: it is a label: what it is worth is what the hold of that sum in a sandbox is worth. -/
noncomputable def Tryz.pinned : Pinned := { name := "ytkgbbcnjkojocaagreatdoor", sum := "00eee5db1be96b7e54caee0a97d7cff8a6f5a0e98957e6f58eca21418d86d496", checked := Tryz.checked }
namespace Rows
def none {H : Type} : Left H := { results := [], args := [] }

/- WHAT THE LISTED PACKAGE-LEVEL VARIABLES READ AS WHEN THE CALL BEGINS. Each datum BY PROGRAM (the guide's laid-datum.mjs) off the statement by which the dump's own 'gosem.cut.vars' lays the variable. In a bare row this is a premise. The card (YtkgbbcnjkojocaaGreatDoorCards.lean) ties it to the program's text. -/
def laid_avocet_naming_words {H : Type} : DataW H := .agg [.lit (.string []), .lit (.string [110, 117, 108, 108]), .lit (.string [98, 111, 111, 108, 101, 97, 110]), .lit (.string [105, 110, 116]), .lit (.string [108, 111, 110, 103]), .lit (.string [102, 108, 111, 97, 116]), .lit (.string [100, 111, 117, 98, 108, 101]), .lit (.string [98, 121, 116, 101, 115]), .lit (.string [115, 116, 114, 105, 110, 103]), .lit (.string [114, 101, 99, 111, 114, 100]), .lit (.string [101, 110, 117, 109]), .lit (.string [97, 114, 114, 97, 121]), .lit (.string [109, 97, 112]), .lit (.string []), .lit (.string [102, 105, 120, 101, 100])]

/-- 'avocetlaw32.GentypeTells': WHATEVER THE INPUT: true; the input reads as it did. -/
def gentypeTellsSpec : ChangeSpec := { name := "gentypeTells", fn := fun _ => fun
  | [d1, d2] => { results := [.lit (.bool true)], args := [d1, d2] }
  | _ => none }
def gentypeTellsRow : OpenClaim := { program := "ytkgbbcnjkojocaagreatdoor", sum := "00eee5db1be96b7e54caee0a97d7cff8a6f5a0e98957e6f58eca21418d86d496", func := "avocet/avocetlaw32.GentypeTells", spec := "gentypeTells", inPlace := ["internal/bytealg.IndexByteString", "internal/bytealg.IndexString"], unfollowed := true, recurses := true, named := ["internal/bytealg.MaxLen", "avocet/naming.words"], loops := true, apart := false, laid := [("avocet/naming.words", laid_avocet_naming_words)] }
def GentypeTellsSaid : Prop := gentypeTellsRow.holds Tryz.pinned (OpenSpec.ofChange gentypeTellsSpec)

/-- ITS FALSE NEIGHBOUR: 'it returns false'. Refute it at one input. -/
def gentypeTellsWrong : ChangeSpec := { name := "gentypeTells", fn := fun _ => fun
  | [d1, d2] => { results := [.lit (.bool false)], args := [d1, d2] }
  | _ => none }
def GentypeTellsWrongFalsely : Prop := gentypeTellsRow.holds Tryz.pinned (OpenSpec.ofChange gentypeTellsWrong)

/- THE SECOND FORM. 'bulk': how many values and letters a reading holds, each counted each time it is reached (what is shared counts as often as it is met; a slice's spare places count too). A statement '..UptoSaid' is the law's where the arguments, and the package variables that the reading takes, are together of bulk at most 1048576: NARROWER than '..Said'. Prove '..Said' where nothing that the law and all that it calls make is longer than what came in: it says more and counts as full. Else prove '..UptoSaid'. A law counts once. -/
mutual
def uptoBulk {H : Type} : DataW H → Nat
  | .lit (.string bytes) => bytes.length + 1
  | .lit _ => 1
  | .nil => 1
  | .ptr d => uptoBulk d + 1
  | .slice elems spare => uptoBulkAll elems + uptoBulkAll spare + 1
  | .agg parts => uptoBulkAll parts + 1
  | .iface _ d => uptoBulk d + 1
  | .map entries => uptoBulkEntries entries + 1
  | .held _ => 1
def uptoBulkAll {H : Type} : List (DataW H) → Nat
  | [] => 0
  | d :: r => uptoBulk d + uptoBulkAll r
def uptoBulkEntries {H : Type} : List (Lit × DataW H) → Nat
  | [] => 0
  | x :: r => uptoBulkEntry x + uptoBulkEntries r
def uptoBulkEntry {H : Type} : Lit × DataW H → Nat
  | (.string bytes, d) => bytes.length + uptoBulk d + 1
  | (_, d) => uptoBulk d + 1
 end
def uptoSmall : (H : Type) → List (DataW H) → Bool := fun _ ds => decide (uptoBulkAll ds ≤ 1048576)
def OpenSpec.upto (s : _root_.Go.ChangeSpec) : _root_.Go.OpenSpec := { _root_.Go.OpenSpec.ofChange s with cond := some uptoSmall }

/-- 'avocetlaw32.GentypeTells', WHERE WHAT IT READS IS OF BULK AT MOST 1048576: true; the input reads as it did. -/
def gentypeTellsUptoRow : OpenClaim := { program := "ytkgbbcnjkojocaagreatdoor", sum := "00eee5db1be96b7e54caee0a97d7cff8a6f5a0e98957e6f58eca21418d86d496", func := "avocet/avocetlaw32.GentypeTells", spec := "gentypeTells", inPlace := ["internal/bytealg.IndexByteString", "internal/bytealg.IndexString"], unfollowed := true, recurses := true, named := ["internal/bytealg.MaxLen", "avocet/naming.words"], loops := true, apart := false, laid := [("avocet/naming.words", laid_avocet_naming_words)], narrowed := true }
def GentypeTellsUptoSaid : Prop := gentypeTellsUptoRow.holds Tryz.pinned (OpenSpec.upto gentypeTellsSpec)

end Rows
end Go.Proofs.YtkgbbcnjkojocaaGreatDoor
