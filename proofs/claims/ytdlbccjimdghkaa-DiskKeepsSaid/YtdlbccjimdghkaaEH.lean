/- DiskKeeps: for every input the law answers true and leaves its arguments as they were. No condition. -/
import Derived.Test.YtdlbccjimdghkaaEI
import Derived.Test.YtdlbccjimdghkaaEG
namespace Go.Proofs.Ytdlbccjimdghkaa
open Go.ChangeShapes Go.WideShapes Go.RowKit Go.Deep
set_option linter.unusedVariables false
theorem diskKeeps_walk (W : World) {a0 : Option Addr} {len0 cap0 : Nat} (x0 : SlV ByteArray) (rel0 : rdStrs.rel W x0 (Value.slice a0 len0 cap0).cells.toList) (fit0 : rdStrs.fits x0) {d0 : Nat} (bulk0 : rdStrs.bulk x0 ≤ d0)
    {a1 : Option Addr} {len1 cap1 : Nat} (x1 : SlV Act8T) (rel1 : rdActs8.rel W x1 (Value.slice a1 len1 cap1).cells.toList) (fit1 : rdActs8.fits x1) {d1 : Nat} (bulk1 : rdActs8.bulk x1 ≤ d1)
    {n2 : Int} (x2 : Int) (rel2 : rdInt.rel W x2 (Value.int .i64 n2).cells.toList) (fit2 : rdInt.fits x2) {d2 : Nat} (bulk2 : rdInt.bulk x2 ≤ d2) :
    Calls Try.prog 4 #[.slice a0 len0 cap0, .slice a1 len1 cap1, .int .i64 n2] W fun e w' => e = .returned (.bool true) ∧ Kp All W w' := by
  have e0 : [Value.slice a0 len0 cap0] = [.slice x0.A x0.xs.length x0.c] := rel0.1
  simp only [List.cons.injEq, Value.slice.injEq, and_true] at e0
  obtain ⟨rfl, rfl, rfl⟩ := e0
  have e1 : [Value.slice a1 len1 cap1] = [.slice x1.A x1.xs.length x1.c] := rel1.1
  simp only [List.cons.injEq, Value.slice.injEq, and_true] at e1
  obtain ⟨rfl, rfl, rfl⟩ := e1
  obtain ⟨n2k, hn2⟩ := int_of rel2
  have hb : x0.xs.length * Try.prog.bytesOf 9 ≤ reachBytes := fit0.1
  have hp : 0 < Try.prog.bytesOf 9 := of_decide_eq_true (by kernel_rfl)
  have h1 := Nat.le_mul_of_pos_right x0.xs.length hp
  have hrb : reachBytes = 140737488351232 := by decide
  have := keeps_true x0.A x0.c x0.xs x0.xs.length rfl x1.A x1.c (x1.xs.map toA8) x1.xs.length (by simp) n2 hn2 W (names_of rel0) (by omega)
    (fun s hs => by have h : s.size ≤ reachBytes := fit0.2 s hs; omega) (acts8_of rel1) (acts8_len fit1) (acts8_fine fit1)
  exact this
namespace RowDiskKeeps
open Go.ChangeShapes Go.WideShapes Go.ChangeAt Go.RowKit
open Go.ChangeMaps (open_string shut_string)
set_option linter.unusedVariables false
theorem own : ownKnob Try.prog.godebug = none := by kernel_rfl
theorem laidOut : laidOutB Try.prog = true := by kernel_rfl
set_option maxRecDepth 100000 in
set_option maxHeartbeats 1000000 in
theorem lifted (os : Os) (started : os.Started) (H : Type) (enc : TypeId × Value → H) :
    ReturnsInHanded {} Try.checked os 4 .any (Rows.diskKeepsSpec.pre6 enc Try.prog Try.f4 Rows.diskKeepsRow.domain false) (Rows.diskKeepsSpec.post enc Try.prog Try.f4 false true false false) := by
  refine returnsInHanded_of_change_sized (C := Try.checked) own started (by kernel_rfl) Try.func4
    (ChangeSpec.witness6 (enc := enc) (C := Try.checked) false ⟨#[], #[.slice none 0 0, .slice none 0 0, .int .i64 0], []⟩ 8 (by kernel_rfl) (by kernel_rfl) (by kernel_rfl) (by kernel_rfl)) ?_
  intro W base args ds gs before hval0 hW hcnd hsz0 _
  have hsz : (DataW.weightsEach Try.prog (Try.f4.params.toList ++ Rows.diskKeepsSpec.plain.varTypes Try.prog) (ds ++ gs)).all (· ≤ reachBytes) = true := hsz0
  have hval : ∀ (j : Nat) t v, Try.f4.params[j]? = some t → args[j]? = some v → Value.okWide Try.prog W .any base t v := hval0
  have hW' := hW
  obtain ⟨p, q, hA0, hV, rfl, hfz, hnd⟩ := hW
  have hA : DataW.TrodAll enc Try.prog W 0 (fun _ => true) true Try.f4.params.toList args.toList ds p := hA0
  rw [Try.params4] at hA hval hsz
  obtain ⟨v0, vs0, d0, ds0, p0, q0, hargs, rfl, rfl, h0, r0⟩ := trodAll_cons hA
  obtain ⟨v1, vs1, d1, ds1, p1, q1, rfl, rfl, rfl, h1, r1⟩ := trodAll_cons r0
  obtain ⟨v2, vs2, d2, ds2, p2, q2, rfl, rfl, rfl, h2, r2⟩ := trodAll_cons r1
  obtain ⟨rfl, rfl, rfl⟩ := trodAll_nil r2
  obtain rfl : args = #[v0, v1, v2] := by cases args; simp_all
  obtain ⟨rfl, rfl⟩ := trodVars_none hV
  have k0 := h0
  have lt0 : ∀ x ∈ p0, x.block < W.heap.size := by obtain ⟨m, hm⟩ := k0; exact DataW.trod_lt m _ _ _ hm
  have wt0 : (d0.weights Try.prog 24).all (· ≤ reachBytes) = true := List.all_eq_true.2 fun n hn => List.all_eq_true.1 hsz n (DataW.weights_mem_each (j := 0) (t := 24) rfl rfl n hn)
  obtain ⟨a0, len0, cap0, rfl⟩ := okWide_slice Try.underlying24 (hval 0 24 v0 rfl rfl)
  obtain ⟨x0, rel0, fit0, bulk0⟩ : ∃ x, rdStrs.rel W x _ ∧ rdStrs.fits x ∧ rdStrs.bulk x ≤ Rows.uptoBulk d0 := by
    obtain ⟨m, hm⟩ := k0
    obtain ⟨x, x1, x2, x3⟩ := rdStrs.opn hm
    exact ⟨x, x1, x2 wt0, x3⟩
  have k1 := h1
  have lt1 : ∀ x ∈ p1, x.block < W.heap.size := by obtain ⟨m, hm⟩ := k1; exact DataW.trod_lt m _ _ _ hm
  have wt1 : (d1.weights Try.prog 25).all (· ≤ reachBytes) = true := List.all_eq_true.2 fun n hn => List.all_eq_true.1 hsz n (DataW.weights_mem_each (j := 1) (t := 25) rfl rfl n hn)
  obtain ⟨a1, len1, cap1, rfl⟩ := okWide_slice Try.underlying25 (hval 1 25 v1 rfl rfl)
  obtain ⟨x1, rel1, fit1, bulk1⟩ : ∃ x, rdActs8.rel W x _ ∧ rdActs8.fits x ∧ rdActs8.bulk x ≤ Rows.uptoBulk d1 := by
    obtain ⟨m, hm⟩ := k1
    obtain ⟨x, x1, x2, x3⟩ := rdActs8.opn hm
    exact ⟨x, x1, x2 wt1, x3⟩
  have k2 := h2
  have lt2 : ∀ x ∈ p2, x.block < W.heap.size := by obtain ⟨m, hm⟩ := k2; exact DataW.trod_lt m _ _ _ hm
  have wt2 : (d2.weights Try.prog 3).all (· ≤ reachBytes) = true := List.all_eq_true.2 fun n hn => List.all_eq_true.1 hsz n (DataW.weights_mem_each (j := 2) (t := 3) rfl rfl n hn)
  obtain ⟨n2, rfl⟩ := okWide_int Try.underlying3 (hval 2 3 v2 rfl rfl)
  obtain ⟨x2, rel2, fit2, bulk2⟩ : ∃ x, rdInt.rel W x _ ∧ rdInt.fits x ∧ rdInt.bulk x ≤ Rows.uptoBulk d2 := by
    obtain ⟨m, hm⟩ := k2
    obtain ⟨x, x1, x2, x3⟩ := rdInt.opn hm
    exact ⟨x, x1, x2 wt2, x3⟩
  clear hA0 hval0 hsz0 hsz
  refine (diskKeeps_walk W x0 rel0 fit0 bulk0 x1 rel1 fit1 bulk1 x2 rel2 fit2 bulk2).mono fun e W' ⟨he, hkp⟩ => ?_
  have bel := hkp.below
  subst he
  exact ⟨_, rfl, _, _, _, [], _, [], hW', trodAll_mk1 (shut_bool Try.underlying4 _), (trodAll_cons_mk (Below.trod laidOut (by kernel_rfl) (of_decide_eq_true (by kernel_rfl)) k0 bel lt0) (trodAll_cons_mk (Below.trod laidOut (by kernel_rfl) (of_decide_eq_true (by kernel_rfl)) k1 bel lt1) (trodAll_cons_mk (Below.trod laidOut (by kernel_rfl) (of_decide_eq_true (by kernel_rfl)) k2 bel lt2) trodAll_mk0))), rfl, bel.frame _, fun h => by cases h⟩
theorem over : Rows.diskKeepsRow.holds Try.pinned (OpenSpec.ofChange Rows.diskKeepsSpec) :=
  OpenClaim.holds_of_wide 4 Try.f4 rfl rfl rfl rfl rfl rfl rfl ⟨rfl, rfl, rfl, rfl, rfl⟩ rfl rfl rfl rfl rfl (by kernel_rfl) Try.func4 (by kernel_rfl)
    (of_decide_eq_true (by kernel_rfl)) (by unfold Func.isWrapper; first | (rw [if_pos (by decide +kernel)]; kernel_rfl) | (rw [if_neg (by decide +kernel)]; exact ⟨rfl, rfl⟩))
    (fun os started H enc _ => lifted os started H enc)
end RowDiskKeeps
/-- The row. -/
theorem diskKeeps_holds : Rows.DiskKeepsSaid := RowDiskKeeps.over
#print axioms diskKeeps_holds
end Go.Proofs.Ytdlbccjimdghkaa
