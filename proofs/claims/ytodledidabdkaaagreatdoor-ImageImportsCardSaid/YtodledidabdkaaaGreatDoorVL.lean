/- The library's contracts at this program, laid by the kit's own tools. No condition. -/
import Derived.Shelf.Small.Bits
import Derived.Test.YtodledidabdkaaaGreatDoorProg
set_option linter.unusedVariables false
set_option linter.unusedSimpArgs false
namespace Go.Proofs
open Go.Shelf
def Tryz.tz8_ren : Go.Shelf.Ren := ⟨fun | 136 => 103 | n => n, fun | 5 => 5 | 3 => 3 | 9 => 9 | n => n, fun | n => n⟩
theorem Tryz.tz8 : Go.Proofs.Lays.n136 Tryz.prog Tryz.tz8_ren := {
  mixed := by kernel_rfl
  f136 := Tryz.func103.trans (congrArg some (by kernel_rfl))
  t3 := Tryz.underlying3
  a3 := Tryz.isAgg3
  z3 := Tryz.sizeOf3
  v3 := Tryz.zeroValue3
  t5 := Tryz.underlying5
  a5 := Tryz.isAgg5
  z5 := Tryz.sizeOf5
  v5 := Tryz.zeroValue5
  t9 := Tryz.underlying9
  a9 := Tryz.isAgg9
  z9 := Tryz.sizeOf9
  v9 := Tryz.zeroValue9 }

end Go.Proofs
