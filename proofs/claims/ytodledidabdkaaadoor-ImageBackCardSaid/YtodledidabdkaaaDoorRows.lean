/-
  NARROWER THAN 'FOR EVERY INPUT', by the rows' own cells (each row's printed sentence says how): ImageNone: laid · ImageSame: laid · ImageRanges: laid · ImageBack: laid.
  DERIVED. THE GIVEN ROWS OF THIS SEAT. 4 by the template 'for every input the law returns true; each argument reads behind the call as it read before'; 0 by the template 'total and deterministic' (their statements: YtodledidabdkaaaDoorTotals.lean).
  GIVEN WITH THE SEED: the statements are not yours to turn. If you find one false, say at which input.
  Laid BY PROGRAM, IN A SANDBOX (cutbox-rows.mjs): the forced cells as the released guide's own fill.sh prints them over the translation c45f9f7a2e8a7bcc… (all of the seat's roots in one cut). By AI agents, Wed Nov 11 2026. No macro, syntax, notation, axiom, sorry.
-/
import Derived.Test.YtodledidabdkaaaDoorChecked
import GoSem.Claim
import GoSem.ClaimJoined
import GoSem.ClaimMapViews
import Derived.JoinedTies
import Derived.KernelRfl
namespace Go.Proofs.YtodledidabdkaaaDoor
/- THE CELL 'sum', in the pinned program and in every row, IS THE sha256 OF THE DUMP (.gsa) THAT YtodledidabdkaaaDoorProg.lean LOADS. Nothing in Lean hashes anything: it is a label: what it is worth is what the hold of that sum in a sandbox is worth. -/
noncomputable def Tryd.pinned : Pinned := { name := "ytodledidabdkaaadoor", sum := "c45f9f7a2e8a7bccb59249ea101b99b67f277a5ab77342503be812de0afbd148", checked := Tryd.checked }
namespace Rows
def none {H : Type} : Left H := { results := [], args := [] }

/- WHAT THE LISTED PACKAGE-LEVEL VARIABLES READ AS WHEN THE CALL BEGINS. Each datum BY PROGRAM (the guide's laid-datum.mjs) off the statement by which the dump's own 'gosem.cut.vars' lays the variable. In a bare row this is a premise. The card (YtodledidabdkaaaDoorCards.lean) ties it to the program's text. -/
def laid_corbel_group_shifts {H : Type} : DataW H := .agg [.lit (.int .u64 0), .lit (.int .u64 8), .lit (.int .u64 16), .lit (.int .u64 24), .lit (.int .u64 32), .lit (.int .u64 40), .lit (.int .u64 48), .lit (.int .u64 56)]

/-- 'corbellaw07.ImageNone': WHATEVER THE INPUT: true; the input reads as it did. -/
def imageNoneSpec : ChangeSpec := { name := "imageNone", fn := fun _ => fun
  | [d] => { results := [.lit (.bool true)], args := [d] }
  | _ => none }
def imageNoneRow : OpenClaim := { program := "ytodledidabdkaaadoor", sum := "c45f9f7a2e8a7bccb59249ea101b99b67f277a5ab77342503be812de0afbd148", func := "corbel/corbellaw07.ImageNone", spec := "imageNone", unfollowed := true, recurses := true, named := ["corbel/group.shifts"], apart := false, laid := [("corbel/group.shifts", laid_corbel_group_shifts)] }
def ImageNoneSaid : Prop := imageNoneRow.holds Tryd.pinned (OpenSpec.ofChange imageNoneSpec)

/-- ITS FALSE NEIGHBOUR: 'it returns false'. Refute it at one input. -/
def imageNoneWrong : ChangeSpec := { name := "imageNone", fn := fun _ => fun
  | [d] => { results := [.lit (.bool false)], args := [d] }
  | _ => none }
def ImageNoneWrongFalsely : Prop := imageNoneRow.holds Tryd.pinned (OpenSpec.ofChange imageNoneWrong)

/-- 'corbellaw07.ImageSame': WHATEVER THE INPUT: true; the input reads as it did. -/
def imageSameSpec : ChangeSpec := { name := "imageSame", fn := fun _ => fun
  | [d1, d2, d3] => { results := [.lit (.bool true)], args := [d1, d2, d3] }
  | _ => none }
def imageSameRow : OpenClaim := { program := "ytodledidabdkaaadoor", sum := "c45f9f7a2e8a7bccb59249ea101b99b67f277a5ab77342503be812de0afbd148", func := "corbel/corbellaw07.ImageSame", spec := "imageSame", unfollowed := true, recurses := true, named := ["corbel/group.shifts"], apart := false, laid := [("corbel/group.shifts", laid_corbel_group_shifts)] }
def ImageSameSaid : Prop := imageSameRow.holds Tryd.pinned (OpenSpec.ofChange imageSameSpec)

/-- ITS FALSE NEIGHBOUR: 'it returns false'. Refute it at one input. -/
def imageSameWrong : ChangeSpec := { name := "imageSame", fn := fun _ => fun
  | [d1, d2, d3] => { results := [.lit (.bool false)], args := [d1, d2, d3] }
  | _ => none }
def ImageSameWrongFalsely : Prop := imageSameRow.holds Tryd.pinned (OpenSpec.ofChange imageSameWrong)

/-- 'corbellaw07.ImageRanges': WHATEVER THE INPUT: true; the input reads as it did. -/
def imageRangesSpec : ChangeSpec := { name := "imageRanges", fn := fun _ => fun
  | [d1, d2, d3] => { results := [.lit (.bool true)], args := [d1, d2, d3] }
  | _ => none }
def imageRangesRow : OpenClaim := { program := "ytodledidabdkaaadoor", sum := "c45f9f7a2e8a7bccb59249ea101b99b67f277a5ab77342503be812de0afbd148", func := "corbel/corbellaw07.ImageRanges", spec := "imageRanges", unfollowed := true, recurses := true, named := ["corbel/group.shifts"], apart := false, laid := [("corbel/group.shifts", laid_corbel_group_shifts)] }
def ImageRangesSaid : Prop := imageRangesRow.holds Tryd.pinned (OpenSpec.ofChange imageRangesSpec)

/-- ITS FALSE NEIGHBOUR: 'it returns false'. Refute it at one input. -/
def imageRangesWrong : ChangeSpec := { name := "imageRanges", fn := fun _ => fun
  | [d1, d2, d3] => { results := [.lit (.bool false)], args := [d1, d2, d3] }
  | _ => none }
def ImageRangesWrongFalsely : Prop := imageRangesRow.holds Tryd.pinned (OpenSpec.ofChange imageRangesWrong)

/-- 'corbellaw07.ImageBack': WHATEVER THE INPUT: true; the input reads as it did. -/
def imageBackSpec : ChangeSpec := { name := "imageBack", fn := fun _ => fun
  | [d1, d2, d3] => { results := [.lit (.bool true)], args := [d1, d2, d3] }
  | _ => none }
def imageBackRow : OpenClaim := { program := "ytodledidabdkaaadoor", sum := "c45f9f7a2e8a7bccb59249ea101b99b67f277a5ab77342503be812de0afbd148", func := "corbel/corbellaw07.ImageBack", spec := "imageBack", unfollowed := true, recurses := true, named := ["corbel/group.shifts"], apart := false, laid := [("corbel/group.shifts", laid_corbel_group_shifts)] }
def ImageBackSaid : Prop := imageBackRow.holds Tryd.pinned (OpenSpec.ofChange imageBackSpec)

/-- ITS FALSE NEIGHBOUR: 'it returns false'. Refute it at one input. -/
def imageBackWrong : ChangeSpec := { name := "imageBack", fn := fun _ => fun
  | [d1, d2, d3] => { results := [.lit (.bool false)], args := [d1, d2, d3] }
  | _ => none }
def ImageBackWrongFalsely : Prop := imageBackRow.holds Tryd.pinned (OpenSpec.ofChange imageBackWrong)

/- THE SECOND FORM. 'bulk': how many values and letters a reading holds, each counted each time it is reached (what is shared counts as often as it is met; a slice's spare places count too). A statement '..UptoSaid' is the law's where the arguments, and the package variables that the reading takes, are together of bulk at most 1048576: NARROWER than '..Said'. Prove '..Said' where nothing that the law and all that it calls make is longer than what came in: it says more and counts as full. Else prove '..UptoSaid'. A law counts once. -/
mutual
def uptoBulk {H : Type} : DataW H → Nat
  | .lit (.string bytes) => bytes.length + 1
  | .lit _ => 1
  | .nil => 1
  | .ptr d => uptoBulk d + 1
  | .slice elems spare => uptoBulkAll elems + uptoBulkAll spare + 1
  | .agg parts => uptoBulkAll parts + 1
  | .iface _ d => uptoBulk d + 1
  | .map entries => uptoBulkEntries entries + 1
  | .held _ => 1
def uptoBulkAll {H : Type} : List (DataW H) → Nat
  | [] => 0
  | d :: r => uptoBulk d + uptoBulkAll r
def uptoBulkEntries {H : Type} : List (Lit × DataW H) → Nat
  | [] => 0
  | x :: r => uptoBulkEntry x + uptoBulkEntries r
def uptoBulkEntry {H : Type} : Lit × DataW H → Nat
  | (.string bytes, d) => bytes.length + uptoBulk d + 1
  | (_, d) => uptoBulk d + 1
 end
def uptoSmall : (H : Type) → List (DataW H) → Bool := fun _ ds => decide (uptoBulkAll ds ≤ 1048576)
def OpenSpec.upto (s : _root_.Go.ChangeSpec) : _root_.Go.OpenSpec := { _root_.Go.OpenSpec.ofChange s with cond := some uptoSmall }

/-- 'corbellaw07.ImageNone', WHERE WHAT IT READS IS OF BULK AT MOST 1048576: true; the input reads as it did. -/
def imageNoneUptoRow : OpenClaim := { program := "ytodledidabdkaaadoor", sum := "c45f9f7a2e8a7bccb59249ea101b99b67f277a5ab77342503be812de0afbd148", func := "corbel/corbellaw07.ImageNone", spec := "imageNone", unfollowed := true, recurses := true, named := ["corbel/group.shifts"], apart := false, laid := [("corbel/group.shifts", laid_corbel_group_shifts)], narrowed := true }
def ImageNoneUptoSaid : Prop := imageNoneUptoRow.holds Tryd.pinned (OpenSpec.upto imageNoneSpec)

/-- 'corbellaw07.ImageSame', WHERE WHAT IT READS IS OF BULK AT MOST 1048576: true; the input reads as it did. -/
def imageSameUptoRow : OpenClaim := { program := "ytodledidabdkaaadoor", sum := "c45f9f7a2e8a7bccb59249ea101b99b67f277a5ab77342503be812de0afbd148", func := "corbel/corbellaw07.ImageSame", spec := "imageSame", unfollowed := true, recurses := true, named := ["corbel/group.shifts"], apart := false, laid := [("corbel/group.shifts", laid_corbel_group_shifts)], narrowed := true }
def ImageSameUptoSaid : Prop := imageSameUptoRow.holds Tryd.pinned (OpenSpec.upto imageSameSpec)

/-- 'corbellaw07.ImageRanges', WHERE WHAT IT READS IS OF BULK AT MOST 1048576: true; the input reads as it did. -/
def imageRangesUptoRow : OpenClaim := { program := "ytodledidabdkaaadoor", sum := "c45f9f7a2e8a7bccb59249ea101b99b67f277a5ab77342503be812de0afbd148", func := "corbel/corbellaw07.ImageRanges", spec := "imageRanges", unfollowed := true, recurses := true, named := ["corbel/group.shifts"], apart := false, laid := [("corbel/group.shifts", laid_corbel_group_shifts)], narrowed := true }
def ImageRangesUptoSaid : Prop := imageRangesUptoRow.holds Tryd.pinned (OpenSpec.upto imageRangesSpec)

/-- 'corbellaw07.ImageBack', WHERE WHAT IT READS IS OF BULK AT MOST 1048576: true; the input reads as it did. -/
def imageBackUptoRow : OpenClaim := { program := "ytodledidabdkaaadoor", sum := "c45f9f7a2e8a7bccb59249ea101b99b67f277a5ab77342503be812de0afbd148", func := "corbel/corbellaw07.ImageBack", spec := "imageBack", unfollowed := true, recurses := true, named := ["corbel/group.shifts"], apart := false, laid := [("corbel/group.shifts", laid_corbel_group_shifts)], narrowed := true }
def ImageBackUptoSaid : Prop := imageBackUptoRow.holds Tryd.pinned (OpenSpec.upto imageBackSpec)

end Rows
end Go.Proofs.YtodledidabdkaaaDoor
