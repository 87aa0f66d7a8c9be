/- What the row's listed variable gives the walks, and a start at which it lies as it is listed. -/
import Derived.Test.YtodledidabdkaaaGreatDoorM3
import Derived.Test.YtodledidabdkaaaGreatDoorRows
import Derived.ProofKit
import Derived.LaidMore
import Derived.Lib.LaidTab
import Derived.Stop.LaidErr
namespace Go.Proofs.YtodledidabdkaaaGreatDoor
open Go.ChangeShapes Go.WideShapes Go.ChangeAt Go.RowKit
set_option linter.unusedVariables false
set_option maxRecDepth 100000
abbrev laidL : List (String × DataW Unit) := [("corbel/group.shifts", Rows.laid_corbel_group_shifts)]
abbrev Gl (W : World) : Prop := Gs W
theorem nameS : Tryz.prog.globalNamed "corbel/group.shifts" = some 0 := by kernel_rfl
theorem typeS : (Tryz.prog.globals[0]?).map (·.type) = some 117 := by kernel_rfl
theorem cells_of_var {P : Program} {w : World} {n : String} {g : Nat} {cs : Array Value} (hg : P.globalNamed n = some g) (h : w.var? P n = some cs) : ∃ t fz, w.heap[g]? = some (.cells cs t fz) := by
  unfold World.var? at h
  rw [hg] at h
  simp only [Option.bind_some] at h
  split at h
  · next o cs' t fz e => injection h with h; subst h; exact ⟨t, fz, e⟩
  · cases h
theorem gl_of_laid {W : World} (h : laidMetH Tryz.prog laidL W) : Gl W := by
  rw [MakeChecks.laidMetH_plain _ _ _ (by kernel_rfl)] at h
  have hT : Lib.TabIs Tryz.prog W "corbel/group.shifts" .u64 [0, 8, 16, 24, 32, 40, 48, 56] := Lib.tabIs_of_head nameS typeS Tryz.underlying117 Tryz.underlying116 (by kernel_rfl) (by kernel_rfl) h
  exact cells_of_var nameS hT
theorem door_met (os : Os) (args : Array Value) : laidMetH Tryz.prog laidL ((World.doorLaid Tryz.prog 400 os).forCall (fun _ _ => 0) ⟨#[], args, []⟩).memory :=
  laidMetH_of_parts3 (fuel := 8) (laidMet_of_run' 8 (by kernel_rfl) (by kernel_rfl)) (by kernel_rfl) (by kernel_rfl)
end Go.Proofs.YtodledidabdkaaaGreatDoor
