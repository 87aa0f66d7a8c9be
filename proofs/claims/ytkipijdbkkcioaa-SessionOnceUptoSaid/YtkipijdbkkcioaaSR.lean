/- How the session laws' arguments are read. No condition. -/
import Derived.Test.YtkipijdbkkcioaaR0
import Derived.Test.YtkipijdbkkcioaaSE
namespace Go.Proofs.Ytkipijdbkkcioaa
open Go.ChangeShapes Go.WideShapes Go.RowKit Go.Deep
set_option linter.unusedVariables false

noncomputable def rdInt : Rdr Try.prog 3 Int := .int Try.underlying3 (by kernel_rfl)
noncomputable def rdErr : Rdr Try.prog 23 Int := .int Try.underlying23 (by kernel_rfl)
noncomputable def rdBool : Rdr Try.prog 4 Bool := .bool Try.underlying4 (by kernel_rfl)
noncomputable def rdStr : Rdr Try.prog 9 ByteArray := .string Try.underlying9 (by kernel_rfl)
noncomputable def rdPair : Rdr Try.prog 67 (ByteArray × ByteArray × Unit) := .struct (.cons rdStr rfl (.cons rdStr rfl (.nil _))) Try.underlying67 (by kernel_rfl)
noncomputable def rdPairs : Rdr Try.prog 24 (SlV (ByteArray × ByteArray × Unit)) := rdPair.slice Try.underlying24 (by kernel_rfl) (by decide)
noncomputable def rdReply : Rdr Try.prog 26 (Int × Bool × ByteArray × Int × SlV (ByteArray × ByteArray × Unit) × Unit) := .struct (.cons rdErr rfl (.cons rdBool rfl (.cons rdStr rfl (.cons rdInt rfl (.cons rdPairs rfl (.nil _)))))) Try.underlying26 (by kernel_rfl)
noncomputable def rdAct : Rdr Try.prog 28 (Int × Int × Int × (Int × Bool × ByteArray × Int × SlV (ByteArray × ByteArray × Unit) × Unit) × Unit) := .struct (.cons rdInt rfl (.cons rdInt rfl (.cons rdInt rfl (.cons rdReply rfl (.nil _))))) Try.underlying28 (by kernel_rfl)
noncomputable def rdActs : Rdr Try.prog 22 (SlV (Int × Int × Int × (Int × Bool × ByteArray × Int × SlV (ByteArray × ByteArray × Unit) × Unit) × Unit)) := rdAct.slice Try.underlying22 (by kernel_rfl) (by decide)


abbrev PairT := ByteArray × ByteArray × Unit
abbrev ReplyT := Int × Bool × ByteArray × Int × SlV PairT × Unit
abbrev ActT := Int × Int × Int × ReplyT × Unit
def toR (x : ReplyT) : RD := ⟨x.1, x.2.1, x.2.2.1, x.2.2.2.1, x.2.2.2.2.1.xs.map fun p => (p.1, p.2.1)⟩
def toA (x : ActT) : AD := ⟨x.1, x.2.1, x.2.2.1, toR x.2.2.2.1, x.2.2.2.1.2.2.2.2.1.A, x.2.2.2.1.2.2.2.2.1.c⟩

theorem pcs_get {ps : List (ByteArray × ByteArray)} {j : Nat} {u : Value} (h : (pcs ps)[j]? = some u) : ∃ p, ps[j / 2]? = some p ∧ ((j % 2 = 0 ∧ u = .string p.1) ∨ (j % 2 = 1 ∧ u = .string p.2)) := by
  induction ps generalizing j with
  | nil => simp [pcs] at h
  | cons q ps ih =>
    match j, h with
    | 0, h => simp [pcs] at h; exact ⟨q, rfl, .inl ⟨rfl, h.symm⟩⟩
    | 1, h => simp [pcs] at h; exact ⟨q, rfl, .inr ⟨rfl, h.symm⟩⟩
    | j + 2, h =>
      obtain ⟨p, h1, h2⟩ := ih (j := j) (by simpa [pcs] using h)
      refine ⟨p, by rw [show (j + 2) / 2 = j / 2 + 1 from by omega]; simpa using h1, ?_⟩
      rw [show (j + 2) % 2 = j % 2 from by omega]
      exact h2

theorem ps_of {w : World} {s : SlV PairT} {cs : List Value} (h : rdPairs.rel w s cs) : cs = [.slice s.A s.xs.length s.c] ∧ Ps s.A s.c (s.xs.map fun p => (p.1, p.2.1)) w := by
  obtain ⟨h1, h2, h3, h4⟩ := h
  refine ⟨h1, ?_⟩
  refine ⟨by rw [pcs_len], by simpa using h2, fun hn => ?_⟩
  obtain ⟨b, o, e, he⟩ := h4 (by simpa using hn)
  refine ⟨b, o, e, fun j u hj => ?_⟩
  obtain ⟨p, hp, hu⟩ := pcs_get hj
  simp only [List.getElem?_map, Option.map_eq_some_iff] at hp
  obtain ⟨q, hq, rfl⟩ := hp
  obtain ⟨c, hc, hcell⟩ := he (j / 2) q hq
  obtain ⟨c1, c2, rfl, ⟨rfl, _⟩, c3, c4, rfl, ⟨rfl, _⟩, rfl⟩ := hc
  rcases hu with ⟨hm, rfl⟩ | ⟨hm, rfl⟩
  · have := hcell 0 _ rfl
    have e : o + j / 2 * rdPair.sz + 0 = o + j := by
      show o + j / 2 * 2 + 0 = o + j
      omega
    rwa [e] at this
  · have := hcell 1 _ rfl
    have e : o + j / 2 * rdPair.sz + 1 = o + j := by
      show o + j / 2 * 2 + 1 = o + j
      omega
    rwa [e] at this

theorem reply_of {w : World} {x : ReplyT} {cs : List Value} (h : rdReply.rel w x cs) : cs = [.int .i64 (toR x).err, .bool (toR x).found, .string (toR x).val, .int .i64 (toR x).sess, .slice x.2.2.2.2.1.A (toR x).pairs.length x.2.2.2.2.1.c] ∧ Ps x.2.2.2.2.1.A x.2.2.2.2.1.c (toR x).pairs w ∧ (toR x).val.size ≤ maxLen := by
  obtain ⟨c1, c2, rfl, ⟨rfl, _⟩, c3, c4, rfl, rfl, c5, c6, rfl, ⟨rfl, hv⟩, c7, c8, rfl, ⟨rfl, _⟩, c9, c10, rfl, hp, rfl⟩ := h
  obtain ⟨rfl, hp2⟩ := ps_of hp
  exact ⟨by simp [toR], hp2, hv⟩

theorem act_of {w : World} {x : ActT} {cs : List Value} (h : rdAct.rel w x cs) : cs = actCells (toA x) ∧ Ps (toA x).A (toA x).c (toA x).r.pairs w ∧ (toA x).r.val.size ≤ maxLen := by
  obtain ⟨c1, c2, rfl, ⟨rfl, _⟩, c3, c4, rfl, ⟨rfl, _⟩, c5, c6, rfl, ⟨rfl, _⟩, c7, c8, rfl, hr, rfl⟩ := h
  obtain ⟨rfl, hp, hv⟩ := reply_of hr
  exact ⟨rfl, hp, hv⟩

theorem fine_of {x : ActT} (h : rdAct.fits x) : small (toA x).r := by
  have h1 : x.2.2.2.1.2.2.2.2.1.xs.length * Try.prog.bytesOf 67 ≤ reachBytes := h.2.2.2.1.2.2.2.2.1.1
  have h2 : Try.prog.bytesOf 67 = 32 := by kernel_rfl
  rw [h2] at h1
  simp only [small, toA, toR, List.length_map]
  have : reachBytes = 140737488351232 := by decide
  omega

theorem acts_of {w : World} {s : SlV ActT} {b o : Nat} (h : Elems rdAct.rel rdAct.sz b o s.xs w) : Acts b o (s.xs.map toA) w := by
  have H : ∀ k, k < (s.xs.map toA).length → ∃ x cs, (s.xs.map toA).getD k default = toA x ∧ rdAct.rel w x cs ∧ ∀ j u, cs[j]? = some u → w.cell? ⟨b, o + k * 8 + j, none⟩ = some u := by
    intro k hk
    have hk' : k < s.xs.length := by simpa using hk
    obtain ⟨cs, h1, h2⟩ := h k _ (List.getElem?_eq_getElem hk')
    exact ⟨s.xs[k], cs, by simp [List.getD, List.getElem?_eq_getElem hk'], h1, h2⟩
  constructor
  · intro k j u hk hj
    obtain ⟨x, cs, e, h1, h2⟩ := H k hk
    rw [e] at hj
    obtain ⟨rfl, _⟩ := act_of h1
    exact h2 j u hj
  · intro k hk
    obtain ⟨x, cs, e, h1, h2⟩ := H k hk
    rw [e]
    exact (act_of h1).2.1
end Go.Proofs.Ytkipijdbkkcioaa
