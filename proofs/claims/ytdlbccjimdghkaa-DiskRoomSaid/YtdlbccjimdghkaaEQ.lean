/- DiskFails: for every input the law answers true and leaves its arguments as they were. No condition. -/
import Derived.Test.YtdlbccjimdghkaaEI
import Derived.Test.YtdlbccjimdghkaaEP
namespace Go.Proofs.Ytdlbccjimdghkaa
open Go.ChangeShapes Go.WideShapes Go.RowKit Go.Deep
set_option linter.unusedVariables false
theorem uint_of {w : World} {x n : Int} (h : rdUint.rel w x (Value.int .u64 n).cells.toList) : 0 ≤ n := by
  obtain ⟨h1, h2⟩ := h
  have h1' : [Value.int .u64 n] = [.int .u64 x] := h1
  simp only [List.cons.injEq, Value.int.injEq, true_and, and_true] at h1'
  subst h1'
  simp [Lit.wf] at h2
  have e1 : IntKind.u64.min = 0 := rfl
  omega
theorem diskFails_walk (W : World) {n0 : Int} (x0 : Int) (rel0 : rdUint.rel W x0 (Value.int .u64 n0).cells.toList) (fit0 : rdUint.fits x0) {d0 : Nat} (bulk0 : rdUint.bulk x0 ≤ d0)
    {n1 : Int} (x1 : Int) (rel1 : rdInt.rel W x1 (Value.int .i64 n1).cells.toList) (fit1 : rdInt.fits x1) {d1 : Nat} (bulk1 : rdInt.bulk x1 ≤ d1)
    {a2 : Option Addr} {len2 cap2 : Nat} (x2 : SlV Int) (rel2 : rdBytes.rel W x2 (Value.slice a2 len2 cap2).cells.toList) (fit2 : rdBytes.fits x2) {d2 : Nat} (bulk2 : rdBytes.bulk x2 ≤ d2) :
    Calls Try.prog 5 #[.int .u64 n0, .int .i64 n1, .slice a2 len2 cap2] W fun e w' => e = .returned (.bool true) ∧ Kp All W w' := by
  have e2 : [Value.slice a2 len2 cap2] = [.slice x2.A x2.xs.length x2.c] := rel2.1
  simp only [List.cons.injEq, Value.slice.injEq, and_true] at e2
  obtain ⟨rfl, rfl, rfl⟩ := e2
  obtain ⟨_, hs, _⟩ := bytes_of rel2
  obtain ⟨_, hn1⟩ := int_of rel1
  obtain ⟨n, rfl⟩ := Int.eq_ofNat_of_zero_le (uint_of rel0)
  have hb : x2.xs.length * Try.prog.bytesOf 5 ≤ reachBytes := fit2.1
  have hp : 0 < Try.prog.bytesOf 5 := of_decide_eq_true (by kernel_rfl)
  have h1 := Nat.le_mul_of_pos_right x2.xs.length hp
  have hrb : reachBytes = 140737488351232 := by decide
  exact fails_true n n1 hn1 x2.A x2.c (toBy x2.xs) x2.xs.length (by simp) (by omega) W hs
namespace RowDiskFails
open Go.ChangeShapes Go.WideShapes Go.ChangeAt Go.RowKit
open Go.ChangeMaps (open_string shut_string)
set_option linter.unusedVariables false
theorem own : ownKnob Try.prog.godebug = none := by kernel_rfl
theorem laidOut : laidOutB Try.prog = true := by kernel_rfl
set_option maxRecDepth 100000 in
set_option maxHeartbeats 1000000 in
theorem lifted (os : Os) (started : os.Started) (H : Type) (enc : TypeId × Value → H) :
    ReturnsInHanded {} Try.checked os 5 .any (Rows.diskFailsSpec.pre6 enc Try.prog Try.f5 Rows.diskFailsRow.domain false) (Rows.diskFailsSpec.post enc Try.prog Try.f5 false true false false) := by
  refine returnsInHanded_of_change_sized (C := Try.checked) own started (by kernel_rfl) Try.func5
    (ChangeSpec.witness6 (enc := enc) (C := Try.checked) false ⟨#[], #[.int .u64 0, .int .i64 0, .slice none 0 0], []⟩ 8 (by kernel_rfl) (by kernel_rfl) (by kernel_rfl) (by kernel_rfl)) ?_
  intro W base args ds gs before hval0 hW hcnd hsz0 _
  have hsz : (DataW.weightsEach Try.prog (Try.f5.params.toList ++ Rows.diskFailsSpec.plain.varTypes Try.prog) (ds ++ gs)).all (· ≤ reachBytes) = true := hsz0
  have hval : ∀ (j : Nat) t v, Try.f5.params[j]? = some t → args[j]? = some v → Value.okWide Try.prog W .any base t v := hval0
  have hW' := hW
  obtain ⟨p, q, hA0, hV, rfl, hfz, hnd⟩ := hW
  have hA : DataW.TrodAll enc Try.prog W 0 (fun _ => true) true Try.f5.params.toList args.toList ds p := hA0
  rw [Try.params5] at hA hval hsz
  obtain ⟨v0, vs0, d0, ds0, p0, q0, hargs, rfl, rfl, h0, r0⟩ := trodAll_cons hA
  obtain ⟨v1, vs1, d1, ds1, p1, q1, rfl, rfl, rfl, h1, r1⟩ := trodAll_cons r0
  obtain ⟨v2, vs2, d2, ds2, p2, q2, rfl, rfl, rfl, h2, r2⟩ := trodAll_cons r1
  obtain ⟨rfl, rfl, rfl⟩ := trodAll_nil r2
  obtain rfl : args = #[v0, v1, v2] := by cases args; simp_all
  obtain ⟨rfl, rfl⟩ := trodVars_none hV
  have k0 := h0
  have lt0 : ∀ x ∈ p0, x.block < W.heap.size := by obtain ⟨m, hm⟩ := k0; exact DataW.trod_lt m _ _ _ hm
  have wt0 : (d0.weights Try.prog 42).all (· ≤ reachBytes) = true := List.all_eq_true.2 fun n hn => List.all_eq_true.1 hsz n (DataW.weights_mem_each (j := 0) (t := 42) rfl rfl n hn)
  obtain ⟨n0, rfl⟩ := okWide_int Try.underlying42 (hval 0 42 v0 rfl rfl)
  obtain ⟨x0, rel0, fit0, bulk0⟩ : ∃ x, rdUint.rel W x _ ∧ rdUint.fits x ∧ rdUint.bulk x ≤ Rows.uptoBulk d0 := by
    obtain ⟨m, hm⟩ := k0
    obtain ⟨x, x1, x2, x3⟩ := rdUint.opn hm
    exact ⟨x, x1, x2 wt0, x3⟩
  have k1 := h1
  have lt1 : ∀ x ∈ p1, x.block < W.heap.size := by obtain ⟨m, hm⟩ := k1; exact DataW.trod_lt m _ _ _ hm
  have wt1 : (d1.weights Try.prog 3).all (· ≤ reachBytes) = true := List.all_eq_true.2 fun n hn => List.all_eq_true.1 hsz n (DataW.weights_mem_each (j := 1) (t := 3) rfl rfl n hn)
  obtain ⟨n1, rfl⟩ := okWide_int Try.underlying3 (hval 1 3 v1 rfl rfl)
  obtain ⟨x1, rel1, fit1, bulk1⟩ : ∃ x, rdInt.rel W x _ ∧ rdInt.fits x ∧ rdInt.bulk x ≤ Rows.uptoBulk d1 := by
    obtain ⟨m, hm⟩ := k1
    obtain ⟨x, x1, x2, x3⟩ := rdInt.opn hm
    exact ⟨x, x1, x2 wt1, x3⟩
  have k2 := h2
  have lt2 : ∀ x ∈ p2, x.block < W.heap.size := by obtain ⟨m, hm⟩ := k2; exact DataW.trod_lt m _ _ _ hm
  have wt2 : (d2.weights Try.prog 32).all (· ≤ reachBytes) = true := List.all_eq_true.2 fun n hn => List.all_eq_true.1 hsz n (DataW.weights_mem_each (j := 2) (t := 32) rfl rfl n hn)
  obtain ⟨a2, len2, cap2, rfl⟩ := okWide_slice Try.underlying32 (hval 2 32 v2 rfl rfl)
  obtain ⟨x2, rel2, fit2, bulk2⟩ : ∃ x, rdBytes.rel W x _ ∧ rdBytes.fits x ∧ rdBytes.bulk x ≤ Rows.uptoBulk d2 := by
    obtain ⟨m, hm⟩ := k2
    obtain ⟨x, x1, x2, x3⟩ := rdBytes.opn hm
    exact ⟨x, x1, x2 wt2, x3⟩
  clear hA0 hval0 hsz0 hsz
  refine (diskFails_walk W x0 rel0 fit0 bulk0 x1 rel1 fit1 bulk1 x2 rel2 fit2 bulk2).mono fun e W' ⟨he, hkp⟩ => ?_
  have bel := hkp.below
  subst he
  exact ⟨_, rfl, _, _, _, [], _, [], hW', trodAll_mk1 (shut_bool Try.underlying4 _), (trodAll_cons_mk (Below.trod laidOut (by kernel_rfl) (of_decide_eq_true (by kernel_rfl)) k0 bel lt0) (trodAll_cons_mk (Below.trod laidOut (by kernel_rfl) (of_decide_eq_true (by kernel_rfl)) k1 bel lt1) (trodAll_cons_mk (Below.trod laidOut (by kernel_rfl) (of_decide_eq_true (by kernel_rfl)) k2 bel lt2) trodAll_mk0))), rfl, bel.frame _, fun h => by cases h⟩
theorem over : Rows.diskFailsRow.holds Try.pinned (OpenSpec.ofChange Rows.diskFailsSpec) :=
  OpenClaim.holds_of_wide 5 Try.f5 rfl rfl rfl rfl rfl rfl rfl ⟨rfl, rfl, rfl, rfl, rfl⟩ rfl rfl rfl rfl rfl (by kernel_rfl) Try.func5 (by kernel_rfl)
    (of_decide_eq_true (by kernel_rfl)) (by unfold Func.isWrapper; first | (rw [if_pos (by decide +kernel)]; kernel_rfl) | (rw [if_neg (by decide +kernel)]; exact ⟨rfl, rfl⟩))
    (fun os started H enc _ => lifted os started H enc)
end RowDiskFails
/-- The row. -/
theorem diskFails_holds : Rows.DiskFailsSaid := RowDiskFails.over
#print axioms diskFails_holds
end Go.Proofs.Ytdlbccjimdghkaa
