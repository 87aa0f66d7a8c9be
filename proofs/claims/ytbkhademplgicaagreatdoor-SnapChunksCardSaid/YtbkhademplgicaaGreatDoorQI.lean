/- How the snapshot laws' arguments are read. No condition. -/
import Derived.Test.YtbkhademplgicaaGreatDoorR0
import Derived.Test.YtbkhademplgicaaGreatDoorM3
namespace Go.Proofs.YtbkhademplgicaaGreatDoor
open Go.ChangeShapes Go.WideShapes Go.RowKit Go.Deep
set_option linter.unusedVariables false
noncomputable def rdI : Rdr Tryz.prog 3 Int := .int Tryz.underlying3 (by kernel_rfl)
noncomputable def rdU : Rdr Tryz.prog 45 Int := .int Tryz.underlying45 (by kernel_rfl)
noncomputable def rdU8 : Rdr Tryz.prog 5 Int := .int Tryz.underlying5 (by kernel_rfl)
noncomputable def rdBytes : Rdr Tryz.prog 25 (SlV Int) := rdU8.slice Tryz.underlying25 (by kernel_rfl) (by decide)
noncomputable def rdInts : Rdr Tryz.prog 22 (SlV Int) := rdI.slice Tryz.underlying22 (by kernel_rfl) (by decide)
abbrev ConfT := SlV Int × SlV Int × Unit
noncomputable def rdConf : Rdr Tryz.prog 24 ConfT := .struct (.cons rdInts rfl (.cons rdInts rfl (.nil _))) Tryz.underlying24 (by kernel_rfl)
abbrev SnapT := Int × Int × ConfT × SlV Int × Unit
noncomputable def rdSnap : Rdr Tryz.prog 27 SnapT := .struct (.cons rdI rfl (.cons rdI rfl (.cons rdConf rfl (.cons rdBytes rfl (.nil _))))) Tryz.underlying27 (by kernel_rfl)
theorem wf_int {n : Int} (h : (Lit.int .i64 n).wf = true) : -9223372036854775808 ≤ n ∧ n ≤ 9223372036854775807 := by
  simp [Lit.wf] at h
  have e1 : IntKind.i64.min = -9223372036854775808 := rfl
  have e2 : IntKind.i64.max = 9223372036854775807 := rfl
  omega
theorem int_of {w : World} {x n : Int} (h : rdI.rel w x (Value.int .i64 n).cells.toList) : -9223372036854775808 ≤ n ∧ n ≤ 9223372036854775807 := by
  obtain ⟨h1, h2⟩ := h
  have h1' : [Value.int .i64 n] = [.int .i64 x] := h1
  simp only [List.cons.injEq, Value.int.injEq, true_and, and_true] at h1'
  subst h1'
  exact wf_int h2
theorem uint_of {w : World} {x n : Int} (h : rdU.rel w x (Value.int .u64 n).cells.toList) : 0 ≤ n ∧ n < 18446744073709551616 := by
  obtain ⟨h1, h2⟩ := h
  have h1' : [Value.int .u64 n] = [.int .u64 x] := h1
  simp only [List.cons.injEq, Value.int.injEq, true_and, and_true] at h1'
  subst h1'
  simp [Lit.wf] at h2
  have e1 : IntKind.u64.min = 0 := rfl
  have e2 : IntKind.u64.max = 18446744073709551615 := rfl
  omega
def toBy (l : List Int) : By := l.map fun n => UInt8.ofNat n.toNat
@[simp] theorem toBy_len (l : List Int) : (toBy l).length = l.length := by simp [toBy]
theorem bytes_of {w : World} {s : SlV Int} {cs : List Value} (h : rdBytes.rel w s cs) : cs = [.slice s.A s.xs.length s.c] ∧ Foot All (Sl s.A s.xs.length s.c 1 (u8s (toBy s.xs))) w ∧ s.c ≤ maxLen := by
  refine ⟨h.1, fun u hu => ?_, h.2.2.1⟩
  obtain ⟨_, h2, h3, h4⟩ := rdBytes.keep _ _ _ _ h hu
  refine ⟨by simp [u8s], h2, fun hn => ?_⟩
  obtain ⟨b, o, e, he⟩ := h4 hn
  refine ⟨b, o, e, fun j v hj => ?_⟩
  simp only [u8s, toBy, List.map_map, List.getElem?_map, Option.map_eq_some_iff] at hj
  obtain ⟨n, hn, rfl⟩ := hj
  obtain ⟨c, ⟨rfl, hw⟩, hcell⟩ := he j n hn
  have := hcell 0 _ rfl
  have e1 : o + j * rdU8.sz + 0 = o + j := by
    show o + j * 1 + 0 = o + j
    omega
  rw [e1] at this
  rw [this]
  have h1 : 0 ≤ n ∧ n < 256 := by
    simp [Lit.wf] at hw
    have e1 : IntKind.u8.min = 0 := rfl
    have e2 : IntKind.u8.max = 255 := rfl
    omega
  congr 2
  simp only [Function.comp, UInt8.toNat_ofNat']
  omega
theorem ints_of {w : World} {s : SlV Int} {cs : List Value} (h : rdInts.rel w s cs) : cs = [.slice s.A s.xs.length s.c] ∧ Foot All (Sl s.A s.xs.length s.c 1 (ivs s.xs)) w ∧ Ints64 s.xs := by
  refine ⟨h.1, fun u hu => ?_, ?_⟩
  · obtain ⟨_, h2, h3, h4⟩ := rdInts.keep _ _ _ _ h hu
    refine ⟨by simp [ivs], h2, fun hn => ?_⟩
    obtain ⟨b, o, e, he⟩ := h4 hn
    refine ⟨b, o, e, fun j v hj => ?_⟩
    simp only [ivs, List.getElem?_map, Option.map_eq_some_iff] at hj
    obtain ⟨n, hn, rfl⟩ := hj
    obtain ⟨c, ⟨rfl, hw⟩, hcell⟩ := he j n hn
    have := hcell 0 _ rfl
    have e1 : o + j * rdI.sz + 0 = o + j := by
      show o + j * 1 + 0 = o + j
      omega
    rwa [e1] at this
  · intro n hn
    obtain ⟨j, hj⟩ := List.mem_iff_getElem?.1 hn
    obtain ⟨_, _, _, h4⟩ := h
    obtain ⟨b, o, e, he⟩ := h4 (List.length_pos_of_mem hn)
    obtain ⟨c, ⟨rfl, hw⟩, _⟩ := he j n hj
    exact wf_int hw
def toSn (x : SnapT) : Sn := ⟨x.1, x.2.1, x.2.2.1.1.xs, x.2.2.1.2.1.xs, toBy x.2.2.2.1.xs⟩
/-- A snapshot's cells. -/
abbrev snCells (x : SnapT) : List Value := [.int .i64 x.1, .int .i64 x.2.1, .slice x.2.2.1.1.A x.2.2.1.1.xs.length x.2.2.1.1.c, .slice x.2.2.1.2.1.A x.2.2.1.2.1.xs.length x.2.2.1.2.1.c, .slice x.2.2.2.1.A x.2.2.2.1.xs.length x.2.2.2.1.c]
theorem snap_of {w : World} {x : SnapT} {cs : List Value} (h : rdSnap.rel w x cs) : cs = snCells x ∧ Snp (toSn x) x.2.2.1.1.A x.2.2.1.2.1.A x.2.2.2.1.A x.2.2.1.1.xs.length x.2.2.1.1.c x.2.2.1.2.1.xs.length x.2.2.1.2.1.c x.2.2.2.1.xs.length x.2.2.2.1.c w := by
  obtain ⟨c1, c2, rfl, ⟨rfl, w1⟩, c3, c4, rfl, ⟨rfl, w2⟩, c5, c6, rfl, ⟨d1, d2, rfl, hv, d3, d4, rfl, hl, rfl⟩, c7, c8, rfl, hb, rfl⟩ := h
  obtain ⟨rfl, hv1, hv2⟩ := ints_of hv
  obtain ⟨rfl, hl1, hl2⟩ := ints_of hl
  obtain ⟨rfl, hb1, _⟩ := bytes_of hb
  exact ⟨rfl, ⟨⟨hv1, hl1, rfl, rfl, hv2, hl2⟩, hb1, by simp [toSn], wf_int w1, wf_int w2⟩⟩
theorem snap_fits {x : SnapT} (h : rdSnap.fits x) : x.2.2.1.1.xs.length ≤ 1000000000000000 ∧ x.2.2.1.2.1.xs.length ≤ 1000000000000000 := by
  obtain ⟨_, _, ⟨h1, h2, _⟩, _, _⟩ := h
  have e1 : x.2.2.1.1.xs.length * Tryz.prog.bytesOf 3 ≤ reachBytes := h1.1
  have e2 : x.2.2.1.2.1.xs.length * Tryz.prog.bytesOf 3 ≤ reachBytes := h2.1
  have e3 : Tryz.prog.bytesOf 3 = 8 := by kernel_rfl
  rw [e3] at e1 e2
  have : reachBytes = 140737488351232 := by decide
  omega
end Go.Proofs.YtbkhademplgicaaGreatDoor
