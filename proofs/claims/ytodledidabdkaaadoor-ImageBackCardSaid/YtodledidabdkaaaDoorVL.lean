/- The library's contracts at this program, laid by the kit's own tools. No condition. -/
import Derived.Shelf.Small.Bits
import Derived.Test.YtodledidabdkaaaDoorProg
set_option linter.unusedVariables false
set_option linter.unusedSimpArgs false
namespace Go.Proofs
open Go.Shelf
def Tryd.tz8_ren : Go.Shelf.Ren := ⟨fun | 136 => 87 | n => n, fun | 5 => 5 | 3 => 3 | 9 => 9 | n => n, fun | n => n⟩
theorem Tryd.tz8 : Go.Proofs.Lays.n136 Tryd.prog Tryd.tz8_ren := {
  mixed := by kernel_rfl
  f136 := Tryd.func87.trans (congrArg some (by kernel_rfl))
  t3 := Tryd.underlying3
  a3 := Tryd.isAgg3
  z3 := Tryd.sizeOf3
  v3 := Tryd.zeroValue3
  t5 := Tryd.underlying5
  a5 := Tryd.isAgg5
  z5 := Tryd.sizeOf5
  v5 := Tryd.zeroValue5
  t9 := Tryd.underlying9
  a9 := Tryd.isAgg9
  z9 := Tryd.sizeOf9
  v9 := Tryd.zeroValue9 }

end Go.Proofs
