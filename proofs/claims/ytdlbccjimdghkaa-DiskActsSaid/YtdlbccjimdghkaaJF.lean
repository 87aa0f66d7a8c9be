/- DiskActs: for every input the law answers true and leaves its arguments as they were. No condition. -/
import Derived.Test.YtdlbccjimdghkaaEI
import Derived.Test.YtdlbccjimdghkaaJE
namespace Go.Proofs.Ytdlbccjimdghkaa
open Go.ChangeShapes Go.WideShapes Go.RowKit Go.Deep
set_option linter.unusedVariables false
theorem int_range8 {x : Int} {cs : List Value} {w : World} (h : rdInt.rel w x cs) : -9223372036854775808 ≤ x ∧ x ≤ 9223372036854775807 := by
  obtain ⟨_, hw⟩ := h
  simp [Lit.wf] at hw
  have e1 : IntKind.i64.min = -9223372036854775808 := rfl
  have e2 : IntKind.i64.max = 9223372036854775807 := rfl
  omega
theorem act8_int {w : World} {x : Act8T} {cs : List Value} (h : rdAct8.rel w x cs) : (toA8 x).n ≤ 9223372036854775807 ∧ (toA8 x).k ≤ 9223372036854775807 := by
  obtain ⟨c1, c2, rfl, _, c3, c4, rfl, _, c5, c6, rfl, _, c7, c8, rfl, _, c9, c10, rfl, h1, c11, c12, rfl, h2, rfl⟩ := h
  exact ⟨(int_range8 h1).2, (int_range8 h2).2⟩
theorem acts8_int {w : World} {s : SlV Act8T} {cs : List Value} (h : rdActs8.rel w s cs) : ∀ x ∈ s.xs.map toA8, x.n ≤ 9223372036854775807 ∧ x.k ≤ 9223372036854775807 := by
  obtain ⟨_, h2, h3, h4⟩ := h
  intro x hx
  obtain ⟨y, hy, rfl⟩ := List.mem_map.1 hx
  obtain ⟨k, hk⟩ := List.mem_iff_getElem?.1 hy
  obtain ⟨b, o, e, he⟩ := h4 (by have := (List.getElem?_eq_some_iff.1 hk).1; omega)
  obtain ⟨c, h5, _⟩ := he k y hk
  exact act8_int h5
theorem diskActs_walk (W : World) {n0 : Int} (x0 : Int) (rel0 : rdInt.rel W x0 (Value.int .i64 n0).cells.toList) (fit0 : rdInt.fits x0) {d0 : Nat} (bulk0 : rdInt.bulk x0 ≤ d0)
    {a1 : Option Addr} {len1 cap1 : Nat} (x1 : SlV Act8T) (rel1 : rdActs8.rel W x1 (Value.slice a1 len1 cap1).cells.toList) (fit1 : rdActs8.fits x1) {d1 : Nat} (bulk1 : rdActs8.bulk x1 ≤ d1) :
    Calls Try.prog 7 #[.int .i64 n0, .slice a1 len1 cap1] W fun e w' => e = .returned (.bool true) ∧ Kp All W w' := by
  have e1 : [Value.slice a1 len1 cap1] = [.slice x1.A x1.xs.length x1.c] := rel1.1
  simp only [List.cons.injEq, Value.slice.injEq, and_true] at e1
  obtain ⟨rfl, rfl, rfl⟩ := e1
  exact dacts_true n0 x1.A x1.c (x1.xs.map toA8) x1.xs.length (by simp) W (acts8_of rel1) (acts8_len fit1) (acts8_fine fit1) (acts8_int rel1)
namespace RowDiskActs
open Go.ChangeShapes Go.WideShapes Go.ChangeAt Go.RowKit
open Go.ChangeMaps (open_string shut_string)
set_option linter.unusedVariables false
theorem own : ownKnob Try.prog.godebug = none := by kernel_rfl
theorem laidOut : laidOutB Try.prog = true := by kernel_rfl
set_option maxRecDepth 100000 in
set_option maxHeartbeats 1000000 in
theorem lifted (os : Os) (started : os.Started) (H : Type) (enc : TypeId × Value → H) :
    ReturnsInHanded {} Try.checked os 7 .any (Rows.diskActsSpec.pre6 enc Try.prog Try.f7 Rows.diskActsRow.domain false) (Rows.diskActsSpec.post enc Try.prog Try.f7 false true false false) := by
  refine returnsInHanded_of_change_sized (C := Try.checked) own started (by kernel_rfl) Try.func7
    (ChangeSpec.witness6 (enc := enc) (C := Try.checked) false ⟨#[], #[.int .i64 0, .slice none 0 0], []⟩ 8 (by kernel_rfl) (by kernel_rfl) (by kernel_rfl) (by kernel_rfl)) ?_
  intro W base args ds gs before hval0 hW hcnd hsz0 _
  have hsz : (DataW.weightsEach Try.prog (Try.f7.params.toList ++ Rows.diskActsSpec.plain.varTypes Try.prog) (ds ++ gs)).all (· ≤ reachBytes) = true := hsz0
  have hval : ∀ (j : Nat) t v, Try.f7.params[j]? = some t → args[j]? = some v → Value.okWide Try.prog W .any base t v := hval0
  have hW' := hW
  obtain ⟨p, q, hA0, hV, rfl, hfz, hnd⟩ := hW
  have hA : DataW.TrodAll enc Try.prog W 0 (fun _ => true) true Try.f7.params.toList args.toList ds p := hA0
  rw [Try.params7] at hA hval hsz
  obtain ⟨v0, vs0, d0, ds0, p0, q0, hargs, rfl, rfl, h0, r0⟩ := trodAll_cons hA
  obtain ⟨v1, vs1, d1, ds1, p1, q1, rfl, rfl, rfl, h1, r1⟩ := trodAll_cons r0
  obtain ⟨rfl, rfl, rfl⟩ := trodAll_nil r1
  obtain rfl : args = #[v0, v1] := by cases args; simp_all
  obtain ⟨rfl, rfl⟩ := trodVars_none hV
  have k0 := h0
  have lt0 : ∀ x ∈ p0, x.block < W.heap.size := by obtain ⟨m, hm⟩ := k0; exact DataW.trod_lt m _ _ _ hm
  have wt0 : (d0.weights Try.prog 3).all (· ≤ reachBytes) = true := List.all_eq_true.2 fun n hn => List.all_eq_true.1 hsz n (DataW.weights_mem_each (j := 0) (t := 3) rfl rfl n hn)
  obtain ⟨n0, rfl⟩ := okWide_int Try.underlying3 (hval 0 3 v0 rfl rfl)
  obtain ⟨x0, rel0, fit0, bulk0⟩ : ∃ x, rdInt.rel W x _ ∧ rdInt.fits x ∧ rdInt.bulk x ≤ Rows.uptoBulk d0 := by
    obtain ⟨m, hm⟩ := k0
    obtain ⟨x, x1, x2, x3⟩ := rdInt.opn hm
    exact ⟨x, x1, x2 wt0, x3⟩
  have k1 := h1
  have lt1 : ∀ x ∈ p1, x.block < W.heap.size := by obtain ⟨m, hm⟩ := k1; exact DataW.trod_lt m _ _ _ hm
  have wt1 : (d1.weights Try.prog 25).all (· ≤ reachBytes) = true := List.all_eq_true.2 fun n hn => List.all_eq_true.1 hsz n (DataW.weights_mem_each (j := 1) (t := 25) rfl rfl n hn)
  obtain ⟨a1, len1, cap1, rfl⟩ := okWide_slice Try.underlying25 (hval 1 25 v1 rfl rfl)
  obtain ⟨x1, rel1, fit1, bulk1⟩ : ∃ x, rdActs8.rel W x _ ∧ rdActs8.fits x ∧ rdActs8.bulk x ≤ Rows.uptoBulk d1 := by
    obtain ⟨m, hm⟩ := k1
    obtain ⟨x, x1, x2, x3⟩ := rdActs8.opn hm
    exact ⟨x, x1, x2 wt1, x3⟩
  clear hA0 hval0 hsz0 hsz
  refine (diskActs_walk W x0 rel0 fit0 bulk0 x1 rel1 fit1 bulk1).mono fun e W' ⟨he, hkp⟩ => ?_
  have bel := hkp.below
  subst he
  exact ⟨_, rfl, _, _, _, [], _, [], hW', trodAll_mk1 (shut_bool Try.underlying4 _), (trodAll_cons_mk (Below.trod laidOut (by kernel_rfl) (of_decide_eq_true (by kernel_rfl)) k0 bel lt0) (trodAll_cons_mk (Below.trod laidOut (by kernel_rfl) (of_decide_eq_true (by kernel_rfl)) k1 bel lt1) trodAll_mk0)), rfl, bel.frame _, fun h => by cases h⟩
theorem over : Rows.diskActsRow.holds Try.pinned (OpenSpec.ofChange Rows.diskActsSpec) :=
  OpenClaim.holds_of_wide 7 Try.f7 rfl rfl rfl rfl rfl rfl rfl ⟨rfl, rfl, rfl, rfl, rfl⟩ rfl rfl rfl rfl rfl (by kernel_rfl) Try.func7 (by kernel_rfl)
    (of_decide_eq_true (by kernel_rfl)) (by unfold Func.isWrapper; first | (rw [if_pos (by decide +kernel)]; kernel_rfl) | (rw [if_neg (by decide +kernel)]; exact ⟨rfl, rfl⟩))
    (fun os started H enc _ => lifted os started H enc)
end RowDiskActs
/-- The row. -/
theorem diskActs_holds : Rows.DiskActsSaid := RowDiskActs.over
#print axioms diskActs_holds
end Go.Proofs.Ytdlbccjimdghkaa
