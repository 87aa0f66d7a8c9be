/- The library's contracts at this program, laid by the kit's own tools. No condition. -/
import Derived.Shelf.SlicesE.Clone
import Derived.Ground.SlgnProg
import Derived.Maps.Ext
import Derived.Shelf.SlSortCmp.WholeK
import Derived.Test.YtodledidabdkaaaGreatDoorProg
set_option linter.unusedVariables false
set_option linter.unusedSimpArgs false
namespace Go.Proofs
open Go.RowKit Go.Maps Go.Sort Go.Shelf
def Tryz.cloneW_ren : Go.Shelf.Ren := ⟨fun | 41 => 60 | n => n, fun | 22 => 59 | 23 => 22 | 4 => 4 | n => n, fun | n => n⟩
theorem Tryz.cloneW : Go.Proofs.SlLaysE0.n41 Tryz.prog Tryz.cloneW_ren := {
  mixed := by kernel_rfl
  f41 := ⟨Tryz.f60.name, by decide, Tryz.func60.trans (congrArg some (by kernel_rfl))⟩
  t4 := Tryz.underlying4
  a4 := Tryz.isAgg4
  z4 := Tryz.sizeOf4
  v4 := Tryz.zeroValue4
  t22 := Tryz.underlying59
  a22 := Tryz.isAgg59
  z22 := Tryz.sizeOf59
  v22 := Tryz.zeroValue59 }
def Tryz.cloneS_ren : Go.Shelf.Ren := ⟨fun | 41 => 63 | n => n, fun | 22 => 71 | 23 => 70 | 4 => 4 | n => n, fun | n => n⟩
theorem Tryz.cloneS : Go.Proofs.SlLaysE0.n41 Tryz.prog Tryz.cloneS_ren := {
  mixed := by kernel_rfl
  f41 := ⟨Tryz.f63.name, by decide, Tryz.func63.trans (congrArg some (by kernel_rfl))⟩
  t4 := Tryz.underlying4
  a4 := Tryz.isAgg4
  z4 := Tryz.sizeOf4
  v4 := Tryz.zeroValue4
  t22 := Tryz.underlying71
  a22 := Tryz.isAgg71
  z22 := Tryz.sizeOf71
  v22 := Tryz.zeroValue71 }

end Go.Proofs
