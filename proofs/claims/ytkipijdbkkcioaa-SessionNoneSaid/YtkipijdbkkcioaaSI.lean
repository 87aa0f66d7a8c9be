/- SessionNone: for every input the law answers true and leaves its argument as it was. No condition. -/
import Derived.Test.YtkipijdbkkcioaaSR
import Derived.Test.YtkipijdbkkcioaaSH
namespace Go.Proofs.Ytkipijdbkkcioaa
open Go.ChangeShapes Go.WideShapes Go.RowKit Go.Deep
set_option linter.unusedVariables false
theorem sessionNone_walk (W : World) {cs : Array Value} (x0 : ActT) (rel0 : rdAct.rel W x0 (Value.agg cs).cells.toList) (fit0 : rdAct.fits x0) {d0 : Nat} (bulk0 : rdAct.bulk x0 ≤ d0) :
    Calls Try.prog 6 #[.agg cs] W fun e w' => e = .returned (.bool true) ∧ Kp All W w' := by
  obtain ⟨h1, h2⟩ := act_of rel0
  have h1' : cs.toList = actCells (toA x0) := h1
  obtain rfl : cs = (actCells (toA x0)).toArray := by rw [← h1']
  exact snone_true (toA x0) W
namespace RowSessionNone
open Go.ChangeShapes Go.WideShapes Go.ChangeAt Go.RowKit
open Go.ChangeMaps (open_string shut_string)
set_option linter.unusedVariables false
theorem own : ownKnob Try.prog.godebug = none := by kernel_rfl
theorem laidOut : laidOutB Try.prog = true := by kernel_rfl
set_option maxRecDepth 100000 in
set_option maxHeartbeats 1000000 in
theorem lifted (os : Os) (started : os.Started) (H : Type) (enc : TypeId × Value → H) :
    ReturnsInHanded {} Try.checked os 6 .any (Rows.sessionNoneSpec.pre6 enc Try.prog Try.f6 Rows.sessionNoneRow.domain false) (Rows.sessionNoneSpec.post enc Try.prog Try.f6 false true false false) := by
  refine returnsInHanded_of_change_sized (C := Try.checked) own started (by kernel_rfl) Try.func6
    (ChangeSpec.witness6 (enc := enc) (C := Try.checked) false ⟨#[], #[.agg #[.int .i64 0, .int .i64 0, .int .i64 0, .int .i64 0, .bool false, .string ByteArray.empty, .int .i64 0, .slice none 0 0]], []⟩ 8 (by kernel_rfl) (by kernel_rfl) (by kernel_rfl) (by kernel_rfl)) ?_
  intro W base args ds gs before hval0 hW hcnd hsz0 _
  have hsz : (DataW.weightsEach Try.prog (Try.f6.params.toList ++ Rows.sessionNoneSpec.plain.varTypes Try.prog) (ds ++ gs)).all (· ≤ reachBytes) = true := hsz0
  have hval : ∀ (j : Nat) t v, Try.f6.params[j]? = some t → args[j]? = some v → Value.okWide Try.prog W .any base t v := hval0
  have hW' := hW
  obtain ⟨p, q, hA0, hV, rfl, hfz, hnd⟩ := hW
  have hA : DataW.TrodAll enc Try.prog W 0 (fun _ => true) true Try.f6.params.toList args.toList ds p := hA0
  rw [Try.params6] at hA hval hsz
  obtain ⟨v0, vs0, d0, ds0, p0, q0, hargs, rfl, rfl, h0, r0⟩ := trodAll_cons hA
  obtain ⟨rfl, rfl, rfl⟩ := trodAll_nil r0
  obtain rfl : args = #[v0] := by cases args; simp_all
  obtain ⟨rfl, rfl⟩ := trodVars_none hV
  have k0 := h0
  have lt0 : ∀ x ∈ p0, x.block < W.heap.size := by obtain ⟨m, hm⟩ := k0; exact DataW.trod_lt m _ _ _ hm
  have wt0 : (d0.weights Try.prog 28).all (· ≤ reachBytes) = true := List.all_eq_true.2 fun n hn => List.all_eq_true.1 hsz n (DataW.weights_mem_each (j := 0) (t := 28) rfl rfl n hn)
  obtain ⟨cs0, rfl, _⟩ := okWide_struct Try.underlying28 (hval 0 28 v0 rfl rfl)
  obtain ⟨x0, rel0, fit0, bulk0⟩ : ∃ x, rdAct.rel W x _ ∧ rdAct.fits x ∧ rdAct.bulk x ≤ Rows.uptoBulk d0 := by
    obtain ⟨m, hm⟩ := k0
    obtain ⟨x, x1, x2, x3⟩ := rdAct.opn hm
    exact ⟨x, x1, x2 wt0, x3⟩
  clear hA0 hval0 hsz0 hsz
  refine (sessionNone_walk W x0 rel0 fit0 bulk0).mono fun e W' ⟨he, hkp⟩ => ?_
  have bel := hkp.below
  subst he
  exact ⟨_, rfl, _, _, _, [], _, [], hW', trodAll_mk1 (shut_bool Try.underlying4 _), (trodAll_cons_mk (Below.trod laidOut (by kernel_rfl) (of_decide_eq_true (by kernel_rfl)) k0 bel lt0) trodAll_mk0), rfl, bel.frame _, fun h => by cases h⟩
theorem over : Rows.sessionNoneRow.holds Try.pinned (OpenSpec.ofChange Rows.sessionNoneSpec) :=
  OpenClaim.holds_of_wide 6 Try.f6 rfl rfl rfl rfl rfl rfl rfl ⟨rfl, rfl, rfl, rfl, rfl⟩ rfl rfl rfl rfl rfl (by kernel_rfl) Try.func6 (by kernel_rfl)
    (of_decide_eq_true (by kernel_rfl)) (by unfold Func.isWrapper; first | (rw [if_pos (by decide +kernel)]; kernel_rfl) | (rw [if_neg (by decide +kernel)]; exact ⟨rfl, rfl⟩))
    (fun os started H enc _ => lifted os started H enc)
end RowSessionNone
/-- The row. -/
theorem sessionNone_holds : Rows.SessionNoneSaid := RowSessionNone.over
#print axioms sessionNone_holds
end Go.Proofs.Ytkipijdbkkcioaa
