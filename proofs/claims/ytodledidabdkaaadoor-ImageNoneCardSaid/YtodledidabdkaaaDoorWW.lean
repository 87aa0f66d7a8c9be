/- How the image laws' arguments are read. No condition. -/
import Derived.Test.YtodledidabdkaaaDoorR0
namespace Go.Proofs.YtodledidabdkaaaDoor
open Go.ChangeShapes Go.WideShapes Go.RowKit Go.Deep
set_option linter.unusedVariables false
noncomputable def rdI : Rdr Tryd.prog 3 Int := .int Tryd.underlying3 (by kernel_rfl)
noncomputable def rdS : Rdr Tryd.prog 9 ByteArray := .string Tryd.underlying9 (by kernel_rfl)
noncomputable def rdAsk : Rdr Tryd.prog 23 (ByteArray × ByteArray × Int × Unit) := .struct (.cons rdS rfl (.cons rdS rfl (.cons rdI rfl (.nil _)))) Tryd.underlying23 (by kernel_rfl)
theorem ask_of {w : World} {x : ByteArray × ByteArray × Int × Unit} {cs : Array Value} (h : rdAsk.rel w x (Value.agg cs).cells.toList) : cs = #[.string x.1, .string x.2.1, .int .i64 x.2.2.1] := by
  obtain ⟨c1, c2, h1, ⟨rfl, _⟩, c3, c4, rfl, ⟨rfl, _⟩, c5, c6, rfl, ⟨rfl, _⟩, rfl⟩ := h
  have h1' : cs.toList = [.string x.1, .string x.2.1, .int .i64 x.2.2.1] := h1
  have e : cs = (cs.toList).toArray := by simp
  rw [e, h1']
end Go.Proofs.YtodledidabdkaaaDoor
