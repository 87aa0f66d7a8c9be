/- The library's contracts at this program, laid by the kit's own tools. No condition. -/
import Derived.Shelf.SlicesE.Clone
import Derived.Ground.SlgnProg
import Derived.Maps.Ext
import Derived.Shelf.SlSortCmp.WholeK
import Derived.Test.YtodledidabdkaaaDoorProg
set_option linter.unusedVariables false
set_option linter.unusedSimpArgs false
namespace Go.Proofs
open Go.RowKit Go.Maps Go.Sort Go.Shelf
def Tryd.cloneW_ren : Go.Shelf.Ren := ⟨fun | 41 => 52 | n => n, fun | 22 => 71 | 23 => 26 | 4 => 4 | n => n, fun | n => n⟩
theorem Tryd.cloneW : Go.Proofs.SlLaysE0.n41 Tryd.prog Tryd.cloneW_ren := {
  mixed := by kernel_rfl
  f41 := ⟨Tryd.f52.name, by decide, Tryd.func52.trans (congrArg some (by kernel_rfl))⟩
  t4 := Tryd.underlying4
  a4 := Tryd.isAgg4
  z4 := Tryd.sizeOf4
  v4 := Tryd.zeroValue4
  t22 := Tryd.underlying71
  a22 := Tryd.isAgg71
  z22 := Tryd.sizeOf71
  v22 := Tryd.zeroValue71 }
def Tryd.cloneS_ren : Go.Shelf.Ren := ⟨fun | 41 => 53 | n => n, fun | 22 => 72 | 23 => 70 | 4 => 4 | n => n, fun | n => n⟩
theorem Tryd.cloneS : Go.Proofs.SlLaysE0.n41 Tryd.prog Tryd.cloneS_ren := {
  mixed := by kernel_rfl
  f41 := ⟨Tryd.f53.name, by decide, Tryd.func53.trans (congrArg some (by kernel_rfl))⟩
  t4 := Tryd.underlying4
  a4 := Tryd.isAgg4
  z4 := Tryd.sizeOf4
  v4 := Tryd.zeroValue4
  t22 := Tryd.underlying72
  a22 := Tryd.isAgg72
  z22 := Tryd.sizeOf72
  v22 := Tryd.zeroValue72 }

end Go.Proofs
