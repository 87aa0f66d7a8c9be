/-
  DERIVED. GIVEN WITH THE SEED: THE CARDS: each row of YtodledidabdkaaaDoorRows.lean that lists a variable, with what it lists TIED to the program's text (the seventh form; the later family's looks); each row that meets fmt, with fmt's text TOLD by the authors' own Lean function (tested against real Go, not proved from fmt's source: count such statements apart). THE CARD IS WHAT COUNTS. Prove the row's statement (the work); the ties are given (YtodledidabdkaaaDoorTie.lean); close each card by the builder's one call (the guide's Derived/Test/ToyasCard.lean, 'card_holds'). Laid BY PROGRAM, IN A SANDBOX (cutbox-door.mjs). By AI agents, Wed Nov 11 2026. No macro, syntax, notation, axiom, sorry.
-/
import Derived.Test.YtodledidabdkaaaDoorRows
import GoSem.ClaimSeven
namespace Go.Proofs.YtodledidabdkaaaDoor
namespace Rows

/-- THE TIED CARD OF 'corbellaw07.ImageNone'. -/
def imageNoneCard : Claim7 := { stood := { row := imageNoneRow, standIns := [], harness := (true, "c7c03d8cc4b96320f8ab7305d06a31276b384ee694a56c1cf69c089a62b6e7ad"), looks := false }, kinds := [], alts := [], laidByText := true, laidKinds := [.data], laidTests := true, laidLooks := .later }
def ImageNoneCardSaid : Prop := Claim7.holds Tryd.pinned (.plain (OpenSpec.ofChange imageNoneSpec)) imageNoneCard

/-- THE TIED CARD OF 'corbellaw07.ImageSame'. -/
def imageSameCard : Claim7 := { stood := { row := imageSameRow, standIns := [], harness := (true, "c7c03d8cc4b96320f8ab7305d06a31276b384ee694a56c1cf69c089a62b6e7ad"), looks := false }, kinds := [], alts := [], laidByText := true, laidKinds := [.data], laidTests := true, laidLooks := .later }
def ImageSameCardSaid : Prop := Claim7.holds Tryd.pinned (.plain (OpenSpec.ofChange imageSameSpec)) imageSameCard

/-- THE TIED CARD OF 'corbellaw07.ImageRanges'. -/
def imageRangesCard : Claim7 := { stood := { row := imageRangesRow, standIns := [], harness := (true, "c7c03d8cc4b96320f8ab7305d06a31276b384ee694a56c1cf69c089a62b6e7ad"), looks := false }, kinds := [], alts := [], laidByText := true, laidKinds := [.data], laidTests := true, laidLooks := .later }
def ImageRangesCardSaid : Prop := Claim7.holds Tryd.pinned (.plain (OpenSpec.ofChange imageRangesSpec)) imageRangesCard

/-- THE TIED CARD OF 'corbellaw07.ImageBack'. -/
def imageBackCard : Claim7 := { stood := { row := imageBackRow, standIns := [], harness := (true, "c7c03d8cc4b96320f8ab7305d06a31276b384ee694a56c1cf69c089a62b6e7ad"), looks := false }, kinds := [], alts := [], laidByText := true, laidKinds := [.data], laidTests := true, laidLooks := .later }
def ImageBackCardSaid : Prop := Claim7.holds Tryd.pinned (.plain (OpenSpec.ofChange imageBackSpec)) imageBackCard

/-- THE SECOND FORM's CARD OF 'corbellaw07.ImageNone'. -/
def imageNoneUptoCard : Claim7 := { stood := { row := imageNoneUptoRow, standIns := [], harness := (true, "c7c03d8cc4b96320f8ab7305d06a31276b384ee694a56c1cf69c089a62b6e7ad"), looks := false }, kinds := [], alts := [], laidByText := true, laidKinds := [.data], laidTests := true, laidLooks := .later }
def ImageNoneUptoCardSaid : Prop := Claim7.holds Tryd.pinned (.plain (OpenSpec.upto imageNoneSpec)) imageNoneUptoCard

/-- THE SECOND FORM's CARD OF 'corbellaw07.ImageSame'. -/
def imageSameUptoCard : Claim7 := { stood := { row := imageSameUptoRow, standIns := [], harness := (true, "c7c03d8cc4b96320f8ab7305d06a31276b384ee694a56c1cf69c089a62b6e7ad"), looks := false }, kinds := [], alts := [], laidByText := true, laidKinds := [.data], laidTests := true, laidLooks := .later }
def ImageSameUptoCardSaid : Prop := Claim7.holds Tryd.pinned (.plain (OpenSpec.upto imageSameSpec)) imageSameUptoCard

/-- THE SECOND FORM's CARD OF 'corbellaw07.ImageRanges'. -/
def imageRangesUptoCard : Claim7 := { stood := { row := imageRangesUptoRow, standIns := [], harness := (true, "c7c03d8cc4b96320f8ab7305d06a31276b384ee694a56c1cf69c089a62b6e7ad"), looks := false }, kinds := [], alts := [], laidByText := true, laidKinds := [.data], laidTests := true, laidLooks := .later }
def ImageRangesUptoCardSaid : Prop := Claim7.holds Tryd.pinned (.plain (OpenSpec.upto imageRangesSpec)) imageRangesUptoCard

/-- THE SECOND FORM's CARD OF 'corbellaw07.ImageBack'. -/
def imageBackUptoCard : Claim7 := { stood := { row := imageBackUptoRow, standIns := [], harness := (true, "c7c03d8cc4b96320f8ab7305d06a31276b384ee694a56c1cf69c089a62b6e7ad"), looks := false }, kinds := [], alts := [], laidByText := true, laidKinds := [.data], laidTests := true, laidLooks := .later }
def ImageBackUptoCardSaid : Prop := Claim7.holds Tryd.pinned (.plain (OpenSpec.upto imageBackSpec)) imageBackUptoCard
end Rows
end Go.Proofs.YtodledidabdkaaaDoor
