/- SessionMost: for every input the law answers true and leaves its argument as it was. No condition. -/
import Derived.Test.YtkipijdbkkcioaaSR
import Derived.Test.YtkipijdbkkcioaaSK
namespace Go.Proofs.Ytkipijdbkkcioaa
open Go.ChangeShapes Go.WideShapes Go.RowKit Go.Deep
set_option linter.unusedVariables false
noncomputable def rdInts : Rdr Try.prog 39 (SlV Int) := rdInt.slice Try.underlying39 (by kernel_rfl) (by decide)
theorem sessionMost_walk (W : World) {a0 : Option Addr} {len0 cap0 : Nat} (x0 : SlV Int) (rel0 : rdInts.rel W x0 (Value.slice a0 len0 cap0).cells.toList) (fit0 : rdInts.fits x0) {d0 : Nat} (bulk0 : rdInts.bulk x0 ≤ d0) :
    Calls Try.prog 4 #[.slice a0 len0 cap0] W fun e w' => e = .returned (.bool true) ∧ Kp All W w' := by
  have e0 : [Value.slice a0 len0 cap0] = [.slice x0.A x0.xs.length x0.c] := rel0.1
  simp only [List.cons.injEq, Value.slice.injEq, and_true] at e0
  obtain ⟨rfl, rfl, rfl⟩ := e0
  have hb : x0.xs.length * Try.prog.bytesOf 3 ≤ reachBytes := fit0.1
  have hp : 0 < Try.prog.bytesOf 3 := of_decide_eq_true (by kernel_rfl)
  have h1 := Nat.le_mul_of_pos_right x0.xs.length hp
  have hrb : reachBytes = 140737488351232 := by decide
  refine most_true x0.A x0.c x0.xs x0.xs.length rfl W (fun u hu => ?_) (by omega) (fun x hx => ?_)
  · obtain ⟨_, h2, h3, h4⟩ := rdInts.keep _ _ _ _ rel0 hu
    refine ⟨by simp, h2, fun hn => ?_⟩
    obtain ⟨b, o, e, he⟩ := h4 hn
    refine ⟨b, o, e, fun j v hj => ?_⟩
    simp only [List.getElem?_map, Option.map_eq_some_iff] at hj
    obtain ⟨n, hn, rfl⟩ := hj
    obtain ⟨c, ⟨rfl, hw⟩, hcell⟩ := he j n hn
    have := hcell 0 _ rfl
    have e1 : o + j * rdInt.sz + 0 = o + j := by
      show o + j * 1 + 0 = o + j
      omega
    rwa [e1] at this
  · obtain ⟨k, hk, rfl⟩ := List.mem_iff_getElem.1 hx
    obtain ⟨_, h2, h3, h4⟩ := rel0
    obtain ⟨b, o, e, he⟩ := h4 (by omega)
    obtain ⟨c, ⟨rfl, hw⟩, _⟩ := he k _ (List.getElem?_eq_getElem hk)
    simp [Lit.wf] at hw
    have e2 : IntKind.i64.max = 9223372036854775807 := rfl
    omega
namespace RowSessionMost
open Go.ChangeShapes Go.WideShapes Go.ChangeAt Go.RowKit
open Go.ChangeMaps (open_string shut_string)
set_option linter.unusedVariables false
theorem own : ownKnob Try.prog.godebug = none := by kernel_rfl
theorem laidOut : laidOutB Try.prog = true := by kernel_rfl
set_option maxRecDepth 100000 in
set_option maxHeartbeats 1000000 in
theorem lifted (os : Os) (started : os.Started) (H : Type) (enc : TypeId × Value → H) :
    ReturnsInHanded {} Try.checked os 4 .any (Rows.sessionMostSpec.pre6 enc Try.prog Try.f4 Rows.sessionMostRow.domain false) (Rows.sessionMostSpec.post enc Try.prog Try.f4 false true false false) := by
  refine returnsInHanded_of_change_sized (C := Try.checked) own started (by kernel_rfl) Try.func4
    (ChangeSpec.witness6 (enc := enc) (C := Try.checked) false ⟨#[], #[.slice none 0 0], []⟩ 8 (by kernel_rfl) (by kernel_rfl) (by kernel_rfl) (by kernel_rfl)) ?_
  intro W base args ds gs before hval0 hW hcnd hsz0 _
  have hsz : (DataW.weightsEach Try.prog (Try.f4.params.toList ++ Rows.sessionMostSpec.plain.varTypes Try.prog) (ds ++ gs)).all (· ≤ reachBytes) = true := hsz0
  have hval : ∀ (j : Nat) t v, Try.f4.params[j]? = some t → args[j]? = some v → Value.okWide Try.prog W .any base t v := hval0
  have hW' := hW
  obtain ⟨p, q, hA0, hV, rfl, hfz, hnd⟩ := hW
  have hA : DataW.TrodAll enc Try.prog W 0 (fun _ => true) true Try.f4.params.toList args.toList ds p := hA0
  rw [Try.params4] at hA hval hsz
  obtain ⟨v0, vs0, d0, ds0, p0, q0, hargs, rfl, rfl, h0, r0⟩ := trodAll_cons hA
  obtain ⟨rfl, rfl, rfl⟩ := trodAll_nil r0
  obtain rfl : args = #[v0] := by cases args; simp_all
  obtain ⟨rfl, rfl⟩ := trodVars_none hV
  have k0 := h0
  have lt0 : ∀ x ∈ p0, x.block < W.heap.size := by obtain ⟨m, hm⟩ := k0; exact DataW.trod_lt m _ _ _ hm
  have wt0 : (d0.weights Try.prog 39).all (· ≤ reachBytes) = true := List.all_eq_true.2 fun n hn => List.all_eq_true.1 hsz n (DataW.weights_mem_each (j := 0) (t := 39) rfl rfl n hn)
  obtain ⟨a0, len0, cap0, rfl⟩ := okWide_slice Try.underlying39 (hval 0 39 v0 rfl rfl)
  obtain ⟨x0, rel0, fit0, bulk0⟩ : ∃ x, rdInts.rel W x _ ∧ rdInts.fits x ∧ rdInts.bulk x ≤ Rows.uptoBulk d0 := by
    obtain ⟨m, hm⟩ := k0
    obtain ⟨x, x1, x2, x3⟩ := rdInts.opn hm
    exact ⟨x, x1, x2 wt0, x3⟩
  clear hA0 hval0 hsz0 hsz
  refine (sessionMost_walk W x0 rel0 fit0 bulk0).mono fun e W' ⟨he, hkp⟩ => ?_
  have bel := hkp.below
  subst he
  exact ⟨_, rfl, _, _, _, [], _, [], hW', trodAll_mk1 (shut_bool Try.underlying4 _), (trodAll_cons_mk (Below.trod laidOut (by kernel_rfl) (of_decide_eq_true (by kernel_rfl)) k0 bel lt0) trodAll_mk0), rfl, bel.frame _, fun h => by cases h⟩
theorem over : Rows.sessionMostRow.holds Try.pinned (OpenSpec.ofChange Rows.sessionMostSpec) :=
  OpenClaim.holds_of_wide 4 Try.f4 rfl rfl rfl rfl rfl rfl rfl ⟨rfl, rfl, rfl, rfl, rfl⟩ rfl rfl rfl rfl rfl (by kernel_rfl) Try.func4 (by kernel_rfl)
    (of_decide_eq_true (by kernel_rfl)) (by unfold Func.isWrapper; first | (rw [if_pos (by decide +kernel)]; kernel_rfl) | (rw [if_neg (by decide +kernel)]; exact ⟨rfl, rfl⟩))
    (fun os started H enc _ => lifted os started H enc)
end RowSessionMost
/-- The row. -/
theorem sessionMost_holds : Rows.SessionMostSaid := RowSessionMost.over
#print axioms sessionMost_holds
end Go.Proofs.Ytkipijdbkkcioaa
