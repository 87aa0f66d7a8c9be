/-
  DERIVED. GIVEN WITH THE SEED: THE CARDS: each row of YtbkhademplgicaaGreatDoorRows.lean that lists a variable, with what it lists TIED to the program's text (the seventh form; the later family's looks); each row that meets fmt, with fmt's text TOLD by the authors' own Lean function (tested against real Go, not proved from fmt's source: count such statements apart). THE CARD IS WHAT COUNTS. Prove the row's statement (the work); the ties are given (YtbkhademplgicaaGreatDoorTie.lean); close each card by the builder's one call (the guide's Derived/Test/ToyasCard.lean, 'card_holds'). Laid BY PROGRAM, IN A SANDBOX (cutbox-door.mjs). By AI agents, Wed Nov 11 2026. No macro, syntax, notation, axiom, sorry.
-/
import Derived.Test.YtbkhademplgicaaGreatDoorRows
import GoSem.ClaimSeven
namespace Go.Proofs.YtbkhademplgicaaGreatDoor
namespace Rows

/-- THE TIED CARD OF 'corbellaw12.SnapChunks'. -/
def snapChunksCard : Claim7 := { stood := { row := snapChunksRow, standIns := [], harness := (true, "90c0824a76eeeaa5dc277ecaed233c5dc760680bca523bb1288f5214c1408b8c"), looks := true }, kinds := [], alts := [], laidByText := true, laidKinds := [.data, .data, .data, .sentinel, .sentinel], laidTests := true, laidLooks := .later }
def SnapChunksCardSaid : Prop := Claim7.holds Tryz.pinned (.plain (OpenSpec.ofChange snapChunksSpec)) snapChunksCard

/-- THE TIED CARD OF 'corbellaw12.SnapBack'. -/
def snapBackCard : Claim7 := { stood := { row := snapBackRow, standIns := [], harness := (true, "90c0824a76eeeaa5dc277ecaed233c5dc760680bca523bb1288f5214c1408b8c"), looks := true }, kinds := [], alts := [], laidByText := true, laidKinds := [.data, .data, .data, .sentinel, .sentinel], laidTests := true, laidLooks := .later }
def SnapBackCardSaid : Prop := Claim7.holds Tryz.pinned (.plain (OpenSpec.ofChange snapBackSpec)) snapBackCard

/-- THE TIED CARD OF 'corbellaw12.SnapNames'. -/
def snapNamesCard : Claim7 := { stood := { row := snapNamesRow, standIns := [], harness := (true, "90c0824a76eeeaa5dc277ecaed233c5dc760680bca523bb1288f5214c1408b8c"), looks := true }, kinds := [], alts := [], laidByText := true, laidKinds := [.data, .data, .data, .sentinel, .sentinel], laidTests := true, laidLooks := .later }
def SnapNamesCardSaid : Prop := Claim7.holds Tryz.pinned (.plain (OpenSpec.ofChange snapNamesSpec)) snapNamesCard

/-- THE TIED CARD OF 'corbellaw12.SnapWhole'. -/
def snapWholeCard : Claim7 := { stood := { row := snapWholeRow, standIns := [], harness := (true, "90c0824a76eeeaa5dc277ecaed233c5dc760680bca523bb1288f5214c1408b8c"), looks := true }, kinds := [], alts := [], laidByText := true, laidKinds := [.data, .data, .data, .sentinel, .sentinel], laidTests := true, laidLooks := .later }
def SnapWholeCardSaid : Prop := Claim7.holds Tryz.pinned (.plain (OpenSpec.ofChange snapWholeSpec)) snapWholeCard

/-- THE SECOND FORM's CARD OF 'corbellaw12.SnapChunks'. -/
def snapChunksUptoCard : Claim7 := { stood := { row := snapChunksUptoRow, standIns := [], harness := (true, "90c0824a76eeeaa5dc277ecaed233c5dc760680bca523bb1288f5214c1408b8c"), looks := true }, kinds := [], alts := [], laidByText := true, laidKinds := [.data, .data, .data, .sentinel, .sentinel], laidTests := true, laidLooks := .later }
def SnapChunksUptoCardSaid : Prop := Claim7.holds Tryz.pinned (.plain (OpenSpec.upto snapChunksSpec)) snapChunksUptoCard

/-- THE SECOND FORM's CARD OF 'corbellaw12.SnapBack'. -/
def snapBackUptoCard : Claim7 := { stood := { row := snapBackUptoRow, standIns := [], harness := (true, "90c0824a76eeeaa5dc277ecaed233c5dc760680bca523bb1288f5214c1408b8c"), looks := true }, kinds := [], alts := [], laidByText := true, laidKinds := [.data, .data, .data, .sentinel, .sentinel], laidTests := true, laidLooks := .later }
def SnapBackUptoCardSaid : Prop := Claim7.holds Tryz.pinned (.plain (OpenSpec.upto snapBackSpec)) snapBackUptoCard

/-- THE SECOND FORM's CARD OF 'corbellaw12.SnapNames'. -/
def snapNamesUptoCard : Claim7 := { stood := { row := snapNamesUptoRow, standIns := [], harness := (true, "90c0824a76eeeaa5dc277ecaed233c5dc760680bca523bb1288f5214c1408b8c"), looks := true }, kinds := [], alts := [], laidByText := true, laidKinds := [.data, .data, .data, .sentinel, .sentinel], laidTests := true, laidLooks := .later }
def SnapNamesUptoCardSaid : Prop := Claim7.holds Tryz.pinned (.plain (OpenSpec.upto snapNamesSpec)) snapNamesUptoCard

/-- THE SECOND FORM's CARD OF 'corbellaw12.SnapWhole'. -/
def snapWholeUptoCard : Claim7 := { stood := { row := snapWholeUptoRow, standIns := [], harness := (true, "90c0824a76eeeaa5dc277ecaed233c5dc760680bca523bb1288f5214c1408b8c"), looks := true }, kinds := [], alts := [], laidByText := true, laidKinds := [.data, .data, .data, .sentinel, .sentinel], laidTests := true, laidLooks := .later }
def SnapWholeUptoCardSaid : Prop := Claim7.holds Tryz.pinned (.plain (OpenSpec.upto snapWholeSpec)) snapWholeUptoCard
end Rows
end Go.Proofs.YtbkhademplgicaaGreatDoor
