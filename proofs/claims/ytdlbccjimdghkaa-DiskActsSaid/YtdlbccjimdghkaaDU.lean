/- How the disk's laws' arguments are read. No condition. -/
import Derived.Test.YtdlbccjimdghkaaR0
import Derived.Test.YtdlbccjimdghkaaDT
namespace Go.Proofs.Ytdlbccjimdghkaa
open Go.ChangeShapes Go.WideShapes Go.RowKit Go.Deep
set_option linter.unusedVariables false
noncomputable def rdInt : Rdr Try.prog 3 Int := .int Try.underlying3 (by kernel_rfl)
noncomputable def rdUint : Rdr Try.prog 42 Int := .int Try.underlying42 (by kernel_rfl)
noncomputable def rdU8 : Rdr Try.prog 5 Int := .int Try.underlying5 (by kernel_rfl)
noncomputable def rdStr : Rdr Try.prog 9 ByteArray := .string Try.underlying9 (by kernel_rfl)
noncomputable def rdStrs : Rdr Try.prog 24 (SlV ByteArray) := rdStr.slice Try.underlying24 (by kernel_rfl) (by decide)
noncomputable def rdBytes : Rdr Try.prog 32 (SlV Int) := rdU8.slice Try.underlying32 (by kernel_rfl) (by decide)
abbrev Act8T := Int × ByteArray × ByteArray × SlV Int × Int × Int × Unit
noncomputable def rdAct8 : Rdr Try.prog 34 Act8T := .struct (.cons rdInt rfl (.cons rdStr rfl (.cons rdStr rfl (.cons rdBytes rfl (.cons rdInt rfl (.cons rdInt rfl (.nil _))))))) Try.underlying34 (by kernel_rfl)
noncomputable def rdActs8 : Rdr Try.prog 25 (SlV Act8T) := rdAct8.slice Try.underlying25 (by kernel_rfl) (by decide)
def toBy (l : List Int) : By := l.map fun n => UInt8.ofNat n.toNat
@[simp] theorem toBy_len (l : List Int) : (toBy l).length = l.length := by simp [toBy]
def toA8 (x : Act8T) : A8 := ⟨x.1, x.2.1, x.2.2.1, toBy x.2.2.2.1.xs, x.2.2.2.2.1, x.2.2.2.2.2.1, x.2.2.2.1.A, x.2.2.2.1.c⟩
theorem bytes_of {w : World} {s : SlV Int} {cs : List Value} (h : rdBytes.rel w s cs) : cs = [.slice s.A s.xs.length s.c] ∧ Foot All (Sl s.A s.xs.length s.c 1 (u8s (toBy s.xs))) w ∧ s.c ≤ maxLen := by
  refine ⟨h.1, fun u hu => ?_, h.2.2.1⟩
  obtain ⟨_, h2, h3, h4⟩ := rdBytes.keep _ _ _ _ h hu
  refine ⟨by simp, h2, fun hn => ?_⟩
  obtain ⟨b, o, e, he⟩ := h4 hn
  refine ⟨b, o, e, fun j v hj => ?_⟩
  simp only [u8s, toBy, List.map_map, List.getElem?_map, Option.map_eq_some_iff] at hj
  obtain ⟨n, hn, rfl⟩ := hj
  obtain ⟨c, ⟨rfl, hw⟩, hcell⟩ := he j n hn
  have := hcell 0 _ rfl
  have e1 : o + j * rdU8.sz + 0 = o + j := by
    show o + j * 1 + 0 = o + j
    omega
  rw [e1] at this
  rw [this]
  have h1 : 0 ≤ n ∧ n < 256 := by
    simp [Lit.wf] at hw
    have e1 : IntKind.u8.min = 0 := rfl
    have e2 : IntKind.u8.max = 255 := rfl
    omega
  congr 2
  simp only [Function.comp, UInt8.toNat_ofNat']
  omega
theorem act8_of {w : World} {x : Act8T} {cs : List Value} (h : rdAct8.rel w x cs) : cs = a8cells (toA8 x) ∧ Foot All (Sl (toA8 x).A (toA8 x).data.length (toA8 x).c 1 (u8s (toA8 x).data)) w := by
  obtain ⟨c1, c2, rfl, ⟨rfl, _⟩, c3, c4, rfl, ⟨rfl, _⟩, c5, c6, rfl, ⟨rfl, _⟩, c7, c8, rfl, hb, c9, c10, rfl, ⟨rfl, _⟩, c11, c12, rfl, ⟨rfl, _⟩, rfl⟩ := h
  obtain ⟨rfl, hs, _⟩ := bytes_of hb
  exact ⟨by simp [a8cells, toA8], by simpa [toA8] using hs⟩
end Go.Proofs.Ytdlbccjimdghkaa
