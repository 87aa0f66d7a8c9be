/- Rows of bytes as texts. No condition. -/
import Derived.Test.YtodledidabdkaaaDoorCC
import Derived.Laws.IdiomStrings
import Derived.Lib.BufferRead
namespace Go.Proofs.YtodledidabdkaaaDoor
open Go.RowKit
set_option linter.unusedVariables false
set_option linter.unusedSimpArgs false
theorem run_conv_row {w : World} {v : Value} {xs : By} (h : Rb v xs w) : (convert 33 9 v).run Tryd.prog w = .ok (.string ⟨xs.toArray⟩) w := by
  obtain ⟨A, c, rfl, h1, h2, h3⟩ := h
  cases xs with
  | nil =>
    cases A with
    | none => exact Lib.run_convert_nil_bytes w _ _ _ _ Tryd.underlying33 Tryd.underlying5 Tryd.underlying9
    | some a => exact run_convert_bytes_back w _ _ _ a c [] Tryd.underlying33 Tryd.underlying5 Tryd.underlying9 (fun j hj => absurd hj (by simp))
  | cons x xs =>
    obtain ⟨b, o, rfl, hr⟩ := h3 (by simp)
    refine run_convert_bytes_back w _ _ _ _ c (x :: xs) Tryd.underlying33 Tryd.underlying5 Tryd.underlying9 (fun j hj => ?_)
    rw [add_lit0]
    refine hr j _ ?_
    simp only [u8s, List.getElem?_map, List.getElem?_eq_getElem hj, Option.map_some]
def strOfB (b : By) : ByteArray := ⟨b.toArray⟩
end Go.Proofs.YtodledidabdkaaaDoor
