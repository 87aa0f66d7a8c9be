/- How rows of names and of acts lie, from how they are read. No condition. -/
import Derived.Test.YtdlbccjimdghkaaDU
import Derived.Test.YtdlbccjimdghkaaED
namespace Go.Proofs.Ytdlbccjimdghkaa
open Go.ChangeShapes Go.WideShapes Go.RowKit Go.Deep
set_option linter.unusedVariables false
theorem int_of {w : World} {x n : Int} (h : rdInt.rel w x (Value.int .i64 n).cells.toList) : -9223372036854775808 ≤ n ∧ n ≤ 9223372036854775807 := by
  obtain ⟨h1, h2⟩ := h
  have h1' : [Value.int .i64 n] = [.int .i64 x] := h1
  simp only [List.cons.injEq, Value.int.injEq, true_and, and_true] at h1'
  subst h1'
  simp [Lit.wf] at h2
  have e1 : IntKind.i64.min = -9223372036854775808 := rfl
  have e2 : IntKind.i64.max = 9223372036854775807 := rfl
  omega
theorem names_of {w : World} {s : SlV ByteArray} {cs : List Value} (h : rdStrs.rel w s cs) : Foot All (Sl s.A s.xs.length s.c 1 (s.xs.map Value.string)) w := by
  intro u hu
  obtain ⟨_, h2, h3, h4⟩ := rdStrs.keep _ _ _ _ h hu
  refine ⟨by simp, h2, fun hn => ?_⟩
  obtain ⟨b, o, e, he⟩ := h4 hn
  refine ⟨b, o, e, fun j v hj => ?_⟩
  simp only [List.getElem?_map, Option.map_eq_some_iff] at hj
  obtain ⟨n, hn, rfl⟩ := hj
  obtain ⟨c, ⟨rfl, hw⟩, hcell⟩ := he j n hn
  have := hcell 0 _ rfl
  have e1 : o + j * rdStr.sz + 0 = o + j := by
    show o + j * 1 + 0 = o + j
    omega
  rwa [e1] at this
theorem acts8_of {w : World} {s : SlV Act8T} {cs : List Value} (h : rdActs8.rel w s cs) : Foot All (AS s.A (s.xs.map toA8)) w := by
  intro u hu hn
  obtain ⟨_, h2, h3, h4⟩ := rdActs8.keep _ _ _ _ h hu
  obtain ⟨b, o, e, he⟩ := h4 (by simpa using hn)
  refine ⟨b, o, e, fun k x hx => ?_⟩
  simp only [List.getElem?_map, Option.map_eq_some_iff] at hx
  obtain ⟨y, hy, rfl⟩ := hx
  obtain ⟨c, h1, h2⟩ := he k y hy
  obtain ⟨rfl, hd⟩ := act8_of h1
  exact ⟨fun j v hj => h2 j v hj, hd.now⟩
theorem acts8_len {s : SlV Act8T} (h : rdActs8.fits s) : s.xs.length ≤ 140737488351232 := by
  have hb : s.xs.length * Try.prog.bytesOf 34 ≤ reachBytes := h.1
  have hp : 0 < Try.prog.bytesOf 34 := of_decide_eq_true (by kernel_rfl)
  have := Nat.le_mul_of_pos_right s.xs.length hp
  have : reachBytes = 140737488351232 := by decide
  omega
theorem act8_fine {x : Act8T} (h : rdAct8.fits x) : fine8 (toA8 x) := by
  obtain ⟨_, h1, h2, h3, _⟩ := h
  have h1' : x.2.1.size ≤ reachBytes := h1
  have h2' : x.2.2.1.size ≤ reachBytes := h2
  have h3' : x.2.2.2.1.xs.length * Try.prog.bytesOf 5 ≤ reachBytes := h3.1
  have hp : 0 < Try.prog.bytesOf 5 := of_decide_eq_true (by kernel_rfl)
  have := Nat.le_mul_of_pos_right x.2.2.2.1.xs.length hp
  have : reachBytes = 140737488351232 := by decide
  simp only [fine8, toA8, toBy_len]
  omega
theorem acts8_fine {s : SlV Act8T} (h : rdActs8.fits s) : ∀ x ∈ s.xs.map toA8, fine8 x := by
  intro x hx
  obtain ⟨y, hy, rfl⟩ := List.mem_map.1 hx
  exact act8_fine (h.2 y hy)
end Go.Proofs.Ytdlbccjimdghkaa
