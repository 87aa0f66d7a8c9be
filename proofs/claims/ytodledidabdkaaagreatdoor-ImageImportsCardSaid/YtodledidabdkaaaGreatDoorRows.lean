/-
  NARROWER THAN 'FOR EVERY INPUT', by the rows' own cells (each row's printed sentence says how): ImageTells: laid · ImageImports: laid.
  DERIVED. THE GIVEN ROWS OF THIS SEAT. 2 by the template 'for every input the law returns true; each argument reads behind the call as it read before'; 0 by the template 'total and deterministic' (their statements: YtodledidabdkaaaGreatDoorTotals.lean).
  GIVEN WITH THE SEED: the statements are not yours to turn. If you find one false, say at which input.
  Laid BY PROGRAM, IN A SANDBOX (cutbox-rows.mjs): the forced cells as the released guide's own fill.sh prints them over the translation 3e74e8a5a4841e84… (all of the seat's roots in one cut). By AI agents, Wed Nov 11 2026. No macro, syntax, notation, axiom, sorry.
-/
import Derived.Test.YtodledidabdkaaaGreatDoorChecked
import GoSem.Claim
import GoSem.ClaimJoined
import GoSem.ClaimMapViews
import Derived.JoinedTies
import Derived.KernelRfl
namespace Go.Proofs.YtodledidabdkaaaGreatDoor
/- THE CELL 'sum', in the pinned program and in every row, IS THE sha256 OF THE DUMP (.gsa) THAT YtodledidabdkaaaGreatDoorProg.lean LOADS. Nothing in Lean hashes anything: it is a label: what it is worth is what the hold of that sum in a sandbox is worth. -/
noncomputable def Tryz.pinned : Pinned := { name := "ytodledidabdkaaagreatdoor", sum := "3e74e8a5a4841e84c8e66ae35f591614c63fff4f701bc2d3166ae9c2fe658aad", checked := Tryz.checked }
namespace Rows
def none {H : Type} : Left H := { results := [], args := [] }

/- WHAT THE LISTED PACKAGE-LEVEL VARIABLES READ AS WHEN THE CALL BEGINS. Each datum BY PROGRAM (the guide's laid-datum.mjs) off the statement by which the dump's own 'gosem.cut.vars' lays the variable. In a bare row this is a premise. The card (YtodledidabdkaaaGreatDoorCards.lean) ties it to the program's text. -/
def laid_corbel_group_shifts {H : Type} : DataW H := .agg [.lit (.int .u64 0), .lit (.int .u64 8), .lit (.int .u64 16), .lit (.int .u64 24), .lit (.int .u64 32), .lit (.int .u64 40), .lit (.int .u64 48), .lit (.int .u64 56)]

/-- 'corbellaw07.ImageTells': WHATEVER THE INPUT: true; the input reads as it did. -/
def imageTellsSpec : ChangeSpec := { name := "imageTells", fn := fun _ => fun
  | [d1, d2, d3] => { results := [.lit (.bool true)], args := [d1, d2, d3] }
  | _ => none }
def imageTellsRow : OpenClaim := { program := "ytodledidabdkaaagreatdoor", sum := "3e74e8a5a4841e84c8e66ae35f591614c63fff4f701bc2d3166ae9c2fe658aad", func := "corbel/corbellaw07.ImageTells", spec := "imageTells", unfollowed := true, recurses := true, named := ["corbel/group.shifts"], apart := false, laid := [("corbel/group.shifts", laid_corbel_group_shifts)] }
def ImageTellsSaid : Prop := imageTellsRow.holds Tryz.pinned (OpenSpec.ofChange imageTellsSpec)

/-- ITS FALSE NEIGHBOUR: 'it returns false'. Refute it at one input. -/
def imageTellsWrong : ChangeSpec := { name := "imageTells", fn := fun _ => fun
  | [d1, d2, d3] => { results := [.lit (.bool false)], args := [d1, d2, d3] }
  | _ => none }
def ImageTellsWrongFalsely : Prop := imageTellsRow.holds Tryz.pinned (OpenSpec.ofChange imageTellsWrong)

/-- 'corbellaw07.ImageImports': WHATEVER THE INPUT: true; the input reads as it did. -/
def imageImportsSpec : ChangeSpec := { name := "imageImports", fn := fun _ => fun
  | [d1, d2] => { results := [.lit (.bool true)], args := [d1, d2] }
  | _ => none }
def imageImportsRow : OpenClaim := { program := "ytodledidabdkaaagreatdoor", sum := "3e74e8a5a4841e84c8e66ae35f591614c63fff4f701bc2d3166ae9c2fe658aad", func := "corbel/corbellaw07.ImageImports", spec := "imageImports", unfollowed := true, recurses := true, named := ["corbel/group.shifts"], apart := false, laid := [("corbel/group.shifts", laid_corbel_group_shifts)] }
def ImageImportsSaid : Prop := imageImportsRow.holds Tryz.pinned (OpenSpec.ofChange imageImportsSpec)

/-- ITS FALSE NEIGHBOUR: 'it returns false'. Refute it at one input. -/
def imageImportsWrong : ChangeSpec := { name := "imageImports", fn := fun _ => fun
  | [d1, d2] => { results := [.lit (.bool false)], args := [d1, d2] }
  | _ => none }
def ImageImportsWrongFalsely : Prop := imageImportsRow.holds Tryz.pinned (OpenSpec.ofChange imageImportsWrong)

/- THE SECOND FORM. 'bulk': how many values and letters a reading holds, each counted each time it is reached (what is shared counts as often as it is met; a slice's spare places count too). A statement '..UptoSaid' is the law's where the arguments, and the package variables that the reading takes, are together of bulk at most 1048576: NARROWER than '..Said'. Prove '..Said' where nothing that the law and all that it calls make is longer than what came in: it says more and counts as full. Else prove '..UptoSaid'. A law counts once. -/
mutual
def uptoBulk {H : Type} : DataW H → Nat
  | .lit (.string bytes) => bytes.length + 1
  | .lit _ => 1
  | .nil => 1
  | .ptr d => uptoBulk d + 1
  | .slice elems spare => uptoBulkAll elems + uptoBulkAll spare + 1
  | .agg parts => uptoBulkAll parts + 1
  | .iface _ d => uptoBulk d + 1
  | .map entries => uptoBulkEntries entries + 1
  | .held _ => 1
def uptoBulkAll {H : Type} : List (DataW H) → Nat
  | [] => 0
  | d :: r => uptoBulk d + uptoBulkAll r
def uptoBulkEntries {H : Type} : List (Lit × DataW H) → Nat
  | [] => 0
  | x :: r => uptoBulkEntry x + uptoBulkEntries r
def uptoBulkEntry {H : Type} : Lit × DataW H → Nat
  | (.string bytes, d) => bytes.length + uptoBulk d + 1
  | (_, d) => uptoBulk d + 1
 end
def uptoSmall : (H : Type) → List (DataW H) → Bool := fun _ ds => decide (uptoBulkAll ds ≤ 1048576)
def OpenSpec.upto (s : _root_.Go.ChangeSpec) : _root_.Go.OpenSpec := { _root_.Go.OpenSpec.ofChange s with cond := some uptoSmall }

/-- 'corbellaw07.ImageTells', WHERE WHAT IT READS IS OF BULK AT MOST 1048576: true; the input reads as it did. -/
def imageTellsUptoRow : OpenClaim := { program := "ytodledidabdkaaagreatdoor", sum := "3e74e8a5a4841e84c8e66ae35f591614c63fff4f701bc2d3166ae9c2fe658aad", func := "corbel/corbellaw07.ImageTells", spec := "imageTells", unfollowed := true, recurses := true, named := ["corbel/group.shifts"], apart := false, laid := [("corbel/group.shifts", laid_corbel_group_shifts)], narrowed := true }
def ImageTellsUptoSaid : Prop := imageTellsUptoRow.holds Tryz.pinned (OpenSpec.upto imageTellsSpec)

/-- 'corbellaw07.ImageImports', WHERE WHAT IT READS IS OF BULK AT MOST 1048576: true; the input reads as it did. -/
def imageImportsUptoRow : OpenClaim := { program := "ytodledidabdkaaagreatdoor", sum := "3e74e8a5a4841e84c8e66ae35f591614c63fff4f701bc2d3166ae9c2fe658aad", func := "corbel/corbellaw07.ImageImports", spec := "imageImports", unfollowed := true, recurses := true, named := ["corbel/group.shifts"], apart := false, laid := [("corbel/group.shifts", laid_corbel_group_shifts)], narrowed := true }
def ImageImportsUptoSaid : Prop := imageImportsUptoRow.holds Tryz.pinned (OpenSpec.upto imageImportsSpec)

end Rows
end Go.Proofs.YtodledidabdkaaaGreatDoor
