/-
  DERIVED. GIVEN WITH THE SEED: THE CARDS: each row of YtodledidabdkaaaGreatDoorRows.lean that lists a variable, with what it lists TIED to the program's text (the seventh form; the later family's looks); each row that meets fmt, with fmt's text TOLD by the authors' own Lean function (tested against real Go, not proved from fmt's source: count such statements apart). THE CARD IS WHAT COUNTS. Prove the row's statement (the work); the ties are given (YtodledidabdkaaaGreatDoorTie.lean); close each card by the builder's one call (the guide's Derived/Test/ToyasCard.lean, 'card_holds'). Laid BY PROGRAM, IN A SANDBOX (cutbox-door.mjs). By AI agents, Wed Nov 11 2026. No macro, syntax, notation, axiom, sorry.
-/
import Derived.Test.YtodledidabdkaaaGreatDoorRows
import GoSem.ClaimSeven
namespace Go.Proofs.YtodledidabdkaaaGreatDoor
namespace Rows

/-- THE TIED CARD OF 'corbellaw07.ImageTells'. -/
def imageTellsCard : Claim7 := { stood := { row := imageTellsRow, standIns := [], harness := (true, "94a0892c2c80ee5f8e9dc797a0859e28407ef459b3783ac8e303b9f8c19b2015"), looks := false }, kinds := [], alts := [], laidByText := true, laidKinds := [.data], laidTests := true, laidLooks := .later }
def ImageTellsCardSaid : Prop := Claim7.holds Tryz.pinned (.plain (OpenSpec.ofChange imageTellsSpec)) imageTellsCard

/-- THE TIED CARD OF 'corbellaw07.ImageImports'. -/
def imageImportsCard : Claim7 := { stood := { row := imageImportsRow, standIns := [], harness := (true, "94a0892c2c80ee5f8e9dc797a0859e28407ef459b3783ac8e303b9f8c19b2015"), looks := false }, kinds := [], alts := [], laidByText := true, laidKinds := [.data], laidTests := true, laidLooks := .later }
def ImageImportsCardSaid : Prop := Claim7.holds Tryz.pinned (.plain (OpenSpec.ofChange imageImportsSpec)) imageImportsCard

/-- THE SECOND FORM's CARD OF 'corbellaw07.ImageTells'. -/
def imageTellsUptoCard : Claim7 := { stood := { row := imageTellsUptoRow, standIns := [], harness := (true, "94a0892c2c80ee5f8e9dc797a0859e28407ef459b3783ac8e303b9f8c19b2015"), looks := false }, kinds := [], alts := [], laidByText := true, laidKinds := [.data], laidTests := true, laidLooks := .later }
def ImageTellsUptoCardSaid : Prop := Claim7.holds Tryz.pinned (.plain (OpenSpec.upto imageTellsSpec)) imageTellsUptoCard

/-- THE SECOND FORM's CARD OF 'corbellaw07.ImageImports'. -/
def imageImportsUptoCard : Claim7 := { stood := { row := imageImportsUptoRow, standIns := [], harness := (true, "94a0892c2c80ee5f8e9dc797a0859e28407ef459b3783ac8e303b9f8c19b2015"), looks := false }, kinds := [], alts := [], laidByText := true, laidKinds := [.data], laidTests := true, laidLooks := .later }
def ImageImportsUptoCardSaid : Prop := Claim7.holds Tryz.pinned (.plain (OpenSpec.upto imageImportsSpec)) imageImportsUptoCard
end Rows
end Go.Proofs.YtodledidabdkaaaGreatDoor
