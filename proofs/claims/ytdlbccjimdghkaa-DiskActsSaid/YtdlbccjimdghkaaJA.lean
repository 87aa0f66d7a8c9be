/- The program's disk and the document's in one memory. No condition. -/
import Derived.Test.YtdlbccjimdghkaaM1
import Derived.Test.YtdlbccjimdghkaaED
import Derived.Test.YtdlbccjimdghkaaEN
import Derived.Deep.RegionHeld3
namespace Go.Proofs.Ytdlbccjimdghkaa
open Go.RowKit
set_option linter.unusedVariables false
set_option linter.unusedSimpArgs false
/-- the two disks in one memory, behind w0 -/
structure Two (w0 : World) (p q : Nat) (ro : Nat → Role) (Z : Nat → Prop) (D R : DS) (w : World) : Prop where
  d : Dk w p ro D
  r : RD Z q R w
  z : ∀ b, Z b → ro b = .none
  o : ∀ b, b < w0.heap.size → ro b = .none ∧ ¬ Z b
  k : Kp All w0 w
theorem Dk.lt {w : World} {p : Nat} {ro : Nat → Role} {D : DS} (h : Dk w p ro D) {b : Nat} (hb : ro b ≠ .none) : b < w.heap.size := by
  obtain ⟨m, fp, bv, BV, h⟩ := h
  exact h.lt b hb
theorem RD.lt {Z : Nat → Prop} {q : Nat} {R : DS} {w : World} (h : RD Z q R w) {b : Nat} (hb : Z b) : b < w.heap.size := by
  obtain ⟨lv, bv, LV, BV, h⟩ := h
  exact h.lt b hb
theorem Two.all {w0 w w' : World} {p q : Nat} {ro : Nat → Role} {Z : Nat → Prop} {D R : DS} (h : Two w0 p q ro Z D R w) (k : Kp All w w') : Two w0 p q ro Z D R w' := ⟨h.d.all k, h.r.all k, h.z, h.o, h.k.trans k⟩
theorem Two.prog {w0 w w' : World} {p q : Nat} {ro : Nat → Role} {Z : Nat → Prop} {D D' R : DS} (h : Two w0 p q ro Z D R w) (hx : Nx w ro p D' w') : ∃ ro', Two w0 p q ro' Z D' R w' ∧ Kp (fun b => ro b = .none) w w' := by
  obtain ⟨ro', h1, h2, k⟩ := hx
  refine ⟨ro', ⟨h1, h.r.kept k (fun b hb => h.z b hb), fun b hb => h2 b (h.r.lt hb) (h.z b hb), fun b hb => ⟨h2 b (Nat.lt_of_lt_of_le hb h.k.size) (h.o b hb).1, (h.o b hb).2⟩, h.k.then k fun b hb _ => (h.o b hb).1⟩, k⟩
theorem Two.doc {w0 w w' : World} {p q : Nat} {ro : Nat → Role} {Z : Nat → Prop} {D R R' : DS} (h : Two w0 p q ro Z D R w) (hx : Rx Z q R' w w') : ∃ Z', Two w0 p q ro Z' D R' w' ∧ Kp (fun b => ¬ Z b) w w' := by
  obtain ⟨Z', h1, h2, k⟩ := hx
  refine ⟨Z', ⟨h.d.kept k (fun b hb hz => hb (h.z b hz)), h1, fun b hb => ?_, fun b hb => ⟨(h.o b hb).1, fun hz => (h.o b hb).2 (h2 b (Nat.lt_of_lt_of_le hb h.k.size) hz)⟩, h.k.then k fun b hb _ => (h.o b hb).2⟩, k⟩
  by_cases hr : ro b = .none
  · exact hr
  · exact h.z b (h2 b (h.d.lt hr) hb)
theorem Two.footD {w0 w : World} {p q : Nat} {ro : Nat → Role} {Z : Nat → Prop} {D R : DS} (h : Two w0 p q ro Z D R w) {P : World → Prop} (f : Foot All P w0) : Foot (fun b => ro b = .none) P w := fun u hu => f u (h.k.then hu fun b hb _ => (h.o b hb).1)
theorem Two.footR {w0 w : World} {p q : Nat} {ro : Nat → Role} {Z : Nat → Prop} {D R : DS} (h : Two w0 p q ro Z D R w) {P : World → Prop} (f : Foot All P w0) : Foot (fun b => ¬ Z b) P w := fun u hu => f u (h.k.then hu fun b hb _ => (h.o b hb).2)
theorem Two.nd {w0 w : World} {p q : Nat} {ro : Nat → Role} {Z : Nat → Prop} {D R : DS} (h : Two w0 p q ro Z D R w) {b : Nat} (hb : w.heap.size ≤ b) : ro b = .none ∧ ¬ Z b := by
  refine ⟨?_, fun hz => by have := h.r.lt hz; omega⟩
  by_cases hr : ro b = .none
  · exact hr
  · have := h.d.lt hr; omega
theorem Two.bl {w0 w : World} {p q : Nat} {ro : Nat → Role} {Z : Nat → Prop} {D R : DS} (h : Two w0 p q ro Z D R w) : 0 ≤ D.blocks ∧ D.blocks ≤ 1000000000 := by
  obtain ⟨m, fp, bv, BV, h0⟩ := h.d
  have := h0.us; have := h0.bl; omega
/-- The two disks' plain states: alike, good, in order, within the budget N. -/
structure Bo (N : Nat) (D R : DS) : Prop where
  a : Ak D R
  b : Bg R N
  o : Or R
theorem Bo.ok {N : Nat} {D R : DS} (h : Bo N D R) (hN : N ≤ 100000) : D.Ok := by
  have h1 := h.b.o0; have h2 := h.b.o1; have h3 := h.b.f1; have h4 := h.b.nb
  refine ⟨by rw [h.a.op]; exact h1, by rw [h.a.op]; omega, by rw [h.a.fa]; exact h3, by rw [h.a.b]; omega⟩
theorem Bo.go {N : Nat} {D R : DS} (h : Bo N D R) (hN : N ≤ 100000) : GO R := h.b.go (by omega)
theorem Bo.nd {N : Nat} {D R : DS} (h : Bo N D R) : (R.F.map (·.1)).Nodup := h.b.nd
theorem Bo.mono {N M : Nat} {D R : DS} (h : Bo N D R) (hm : N ≤ M) : Bo M D R := ⟨h.a, h.b.mono hm, h.o⟩
theorem Bo.create {N : Nat} {D R : DS} (h : Bo N D R) (n : Nm) : Bo (N + 2) (creD D n) (qcreD R n) := ⟨h.a.creD h.nd n, h.b.creD n, h.o.creD n⟩
theorem Bo.append {N : Nat} {D R : DS} (h : Bo N D R) (n : Nm) (b : By) : Bo (N + 2 + b.length) (appD D n b) (appD R n b) := ⟨h.a.appD h.nd n b, h.b.appD n b, h.o.appD n b⟩
theorem Bo.sync {N : Nat} {D R : DS} (h : Bo N D R) : Bo (N + 1) (syncD D) (syncD R) := ⟨h.a.syncD, h.b.syncD, h.o.syncD⟩
theorem Bo.remove {N : Nat} {D R : DS} (h : Bo N D R) (n : Nm) : Bo (N + 1) (remD D n) (remD R n) := ⟨h.a.remD h.nd n, h.b.remD n, h.o.remD n⟩
theorem Bo.rename {N : Nat} {D R : DS} (h : Bo N D R) (a b : Nm) : Bo (N + 2) (renD D a b) (qrenD R a b) := ⟨h.a.renD h.nd a b, h.b.renD a b, h.o.renD a b⟩
theorem Bo.spoil {N : Nat} {D R : DS} (h : Bo N D R) (n : Nm) (i bit : Int) : Bo N (spoD D n i bit) (spoD R n i bit) := ⟨h.a.spoD h.nd n i bit, h.b.spoD n i bit, h.o.spoD n i bit⟩
theorem Bo.arm {N : Nat} {D R : DS} (h : Bo N D R) (n k : Int) (hn : n ≤ 9223372036854775807) (hk : k ≤ 9223372036854775807) : Bo N (armD D n k) (armD R n k) := ⟨h.a.arm n k, h.b.arm n k hn hk, h.o.arm n k⟩
theorem Bo.crash {N : Nat} {D R : DS} (h : Bo N D R) (k : Int) : Bo N (D.crash k) (R.crash k) := ⟨h.a.crash k, h.b.crash k, h.o.crash k⟩
theorem Bo.start {N : Nat} {D R : DS} (h : Bo N D R) : Bo N D.start R.start := ⟨h.a.start, h.b.start, h.o.same rfl⟩
/-- An act is done on both: they answer the same, and are alike behind it. -/
def Acted (w0 : World) (p q N : Nat) (e : Ending) (w' : World) : Prop := e = .returned (.bool true) ∧ ∃ ro Z D R, Two w0 p q ro Z D R w' ∧ Bo N D R
theorem Acted.of {w0 w' : World} {p q N M : Nat} {ro : Nat → Role} {Z : Nat → Prop} {D R : DS} (h : Two w0 p q ro Z D R w') (b : Bo N D R) (hm : N ≤ M) : Acted w0 p q M (.returned (.bool true)) w' := ⟨rfl, ro, Z, D, R, h, b.mono hm⟩
end Go.Proofs.Ytdlbccjimdghkaa
