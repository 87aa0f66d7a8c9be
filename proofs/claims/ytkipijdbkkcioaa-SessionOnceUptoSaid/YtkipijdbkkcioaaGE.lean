/- SessionOnce: for every input of no great bulk the law answers true and leaves its arguments as they were. Condition: the input's bulk (UptoSaid). -/
import Derived.Test.YtkipijdbkkcioaaCU
import Derived.Test.YtkipijdbkkcioaaGD
namespace Go.Proofs.Ytkipijdbkkcioaa
open Go.ChangeShapes Go.WideShapes Go.RowKit Go.Deep
set_option linter.unusedVariables false
theorem pairs_sz (ps : List PairT) : ∀ p ∈ ps.map fun p => (p.1, p.2.1), p.1.size ≤ bulks rdPair.bulk ps ∧ p.2.size ≤ bulks rdPair.bulk ps := by
  induction ps with
  | nil => simp
  | cons q ps ih =>
    intro p hp
    have hb := pair_bulk q
    simp only [bulks]
    rcases List.mem_cons.1 hp with rfl | hp
    · simp only; omega
    · have := ih p hp; omega
theorem act_sz {x : ActT} (hb : rdAct.bulk x ≤ 1048576) : AcSz (toA x) := by
  have h1 := act_bulk x
  have h2 := reply_bulk x.2.2.2.1
  refine ⟨?_, fun p hp => ?_⟩
  · show x.2.2.2.1.2.2.1.size < 2 ^ 64
    omega
  · have := pairs_sz x.2.2.2.1.2.2.2.2.1.xs p hp
    omega
theorem sessionOnce_walk (W : World) {n0 : Int} (x0 : Int) (rel0 : rdInt.rel W x0 (Value.int .i64 n0).cells.toList) (fit0 : rdInt.fits x0) {d0 : Nat} (bulk0 : rdInt.bulk x0 ≤ d0)
    {a1 : Option Addr} {len1 cap1 : Nat} (x1 : SlV ActT) (rel1 : rdActs.rel W x1 (Value.slice a1 len1 cap1).cells.toList) (fit1 : rdActs.fits x1) {d1 : Nat} (bulk1 : rdActs.bulk x1 ≤ d1) (hsum : d0 + d1 ≤ 1048576) :
    Calls Try.prog 7 #[.int .i64 n0, .slice a1 len1 cap1] W fun e w' => e = .returned (.bool true) ∧ Kp All W w' := by
  have hr := int_range rel0
  have e0 : [Value.int .i64 n0] = [.int .i64 x0] := rel0.1
  simp only [List.cons.injEq, Value.int.injEq, and_true, true_and] at e0
  subst e0
  obtain ⟨k1, k2, k3, k4⟩ := rel1
  have k1' : [Value.slice a1 len1 cap1] = [.slice x1.A x1.xs.length x1.c] := k1
  simp only [List.cons.injEq, Value.slice.injEq, and_true] at k1'
  obtain ⟨rfl, rfl, rfl⟩ := k1'
  have hl : (x1.xs.map toA).length = x1.xs.length := by simp
  have := once_true n0 x1.A x1.c (x1.xs.map toA) W hr.1 hr.2 (by
      rw [hl]
      have hb : x1.xs.length * Try.prog.bytesOf 28 ≤ reachBytes := fit1.1
      have hp : 0 < Try.prog.bytesOf 28 := of_decide_eq_true (by kernel_rfl)
      have := Nat.le_mul_of_pos_right x1.xs.length hp
      have : reachBytes = 140737488351232 := by decide
      omega) (fun hn => by
      obtain ⟨b, o, e, he⟩ := k4 (by simpa using hn)
      exact ⟨b, o, e, fun u hu => acts_of (s := x1) (fun i x hx => by
        obtain ⟨cs, c1, c2⟩ := he i x hx
        exact ⟨cs, rdAct.keep _ _ _ _ c1 hu, fun j v hj => hu.cell (c2 j v hj) trivial⟩)⟩)
    (fun k hk => by
      have hk' : k < x1.xs.length := by simpa using hk
      have e : (x1.xs.map toA).getD k default = toA x1.xs[k] := by simp [List.getD, List.getElem?_eq_getElem hk']
      rw [e]
      obtain ⟨b, o, _, he⟩ := k4 (by omega)
      obtain ⟨cs, c1, _⟩ := he k _ (List.getElem?_eq_getElem hk')
      have hb : bulks rdAct.bulk x1.xs + 1 ≤ d1 := bulk1
      have hm : rdAct.bulk x1.xs[k] ≤ bulks rdAct.bulk x1.xs := bulks_mem (List.getElem_mem hk')
      exact ⟨act_ok c1 (fit1.2 _ (List.getElem_mem hk')) (by omega), act_sz (by omega)⟩)
  rw [hl] at this
  exact this
namespace RowSessionOnce
open Go.ChangeShapes Go.WideShapes Go.ChangeAt Go.RowKit
open Go.ChangeMaps (open_string shut_string)
set_option linter.unusedVariables false
theorem own : ownKnob Try.prog.godebug = none := by kernel_rfl
theorem laidOut : laidOutB Try.prog = true := by kernel_rfl
set_option maxRecDepth 100000 in
set_option maxHeartbeats 1000000 in
theorem lifted (os : Os) (started : os.Started) (H : Type) (enc : TypeId × Value → H) (F : Stop.Interp) :
    ReturnsInHanded {} Try.checked os 7 .any ((Rows.OpenSpec.upto Rows.sessionOnceSpec).pre6 enc Try.prog Try.f7 Rows.sessionOnceUptoRow.domain false) (((Rows.OpenSpec.upto Rows.sessionOnceSpec).at F).post enc Try.prog Try.f7 false true false false) := by
  refine returnsInHanded_of_cond_sized (C := Try.checked) (s := Rows.OpenSpec.upto Rows.sessionOnceSpec) (k := Rows.uptoSmall) rfl own started (by kernel_rfl) Try.func7
    (OpenSpec.witness (enc := enc) (C := Try.checked) (s := Rows.OpenSpec.upto Rows.sessionOnceSpec) (k := Rows.uptoSmall) rfl false ⟨#[], #[.int .i64 0, .slice none 0 0], []⟩ 8 (by kernel_rfl) (by kernel_rfl) (by kernel_rfl) (x := ([.lit (.int .i64 0), .nil], [], [])) (by kernel_rfl) rfl (by kernel_rfl)) ?_
  intro W base args ds gs before hval0 hW hcnd hk0 hsz0 _
  have hsz : (DataW.weightsEach Try.prog (Try.f7.params.toList ++ Rows.sessionOnceSpec.plain.varTypes Try.prog) (ds ++ gs)).all (· ≤ reachBytes) = true := hsz0
  have hval : ∀ (j : Nat) t v, Try.f7.params[j]? = some t → args[j]? = some v → Value.okWide Try.prog W .any base t v := hval0
  have hW' := hW
  obtain ⟨p, q, hA0, hV, rfl, hfz, hnd⟩ := hW
  have hA : DataW.TrodAll enc Try.prog W 0 (fun _ => true) true Try.f7.params.toList args.toList ds p := hA0
  rw [Try.params7] at hA hval hsz
  obtain ⟨v0, vs0, d0, ds0, p0, q0, hargs, rfl, rfl, h0, r0⟩ := trodAll_cons hA
  obtain ⟨v1, vs1, d1, ds1, p1, q1, rfl, rfl, rfl, h1, r1⟩ := trodAll_cons r0
  obtain ⟨rfl, rfl, rfl⟩ := trodAll_nil r1
  obtain rfl : args = #[v0, v1] := by cases args; simp_all
  obtain ⟨rfl, rfl⟩ := trodVars_none hV
  have k0 := h0
  have lt0 : ∀ x ∈ p0, x.block < W.heap.size := by obtain ⟨m, hm⟩ := k0; exact DataW.trod_lt m _ _ _ hm
  have wt0 : (d0.weights Try.prog 3).all (· ≤ reachBytes) = true := List.all_eq_true.2 fun n hn => List.all_eq_true.1 hsz n (DataW.weights_mem_each (j := 0) (t := 3) rfl rfl n hn)
  obtain ⟨n0, rfl⟩ := okWide_int Try.underlying3 (hval 0 3 v0 rfl rfl)
  obtain ⟨x0, rel0, fit0, bulk0⟩ : ∃ x, rdInt.rel W x _ ∧ rdInt.fits x ∧ rdInt.bulk x ≤ Rows.uptoBulk d0 := by
    obtain ⟨m, hm⟩ := k0
    obtain ⟨x, x1, x2, x3⟩ := rdInt.opn hm
    exact ⟨x, x1, x2 wt0, x3⟩
  have k1 := h1
  have lt1 : ∀ x ∈ p1, x.block < W.heap.size := by obtain ⟨m, hm⟩ := k1; exact DataW.trod_lt m _ _ _ hm
  have wt1 : (d1.weights Try.prog 22).all (· ≤ reachBytes) = true := List.all_eq_true.2 fun n hn => List.all_eq_true.1 hsz n (DataW.weights_mem_each (j := 1) (t := 22) rfl rfl n hn)
  obtain ⟨a1, len1, cap1, rfl⟩ := okWide_slice Try.underlying22 (hval 1 22 v1 rfl rfl)
  obtain ⟨x1, rel1, fit1, bulk1⟩ : ∃ x, rdActs.rel W x _ ∧ rdActs.fits x ∧ rdActs.bulk x ≤ Rows.uptoBulk d1 := by
    obtain ⟨m, hm⟩ := k1
    obtain ⟨x, x1, x2, x3⟩ := rdActs.opn hm
    exact ⟨x, x1, x2 wt1, x3⟩
  clear hA0 hval0 hsz0 hsz
  simp only [List.append_nil] at hk0
  have hsum0 : Rows.uptoBulkAll [d0, d1] ≤ 1048576 := of_decide_eq_true hk0
  have hsum : Rows.uptoBulk d0 + Rows.uptoBulk d1 ≤ 1048576 := by simp only [Rows.uptoBulkAll] at hsum0; omega
  refine (sessionOnce_walk W x0 rel0 fit0 bulk0 x1 rel1 fit1 bulk1 hsum).mono fun e W' ⟨he, hkp⟩ => ?_
  have bel := hkp.below
  subst he
  exact ⟨_, rfl, _, _, _, [], _, [], hW', trodAll_mk1 (shut_bool Try.underlying4 _), (trodAll_cons_mk (Below.trod laidOut (by kernel_rfl) (of_decide_eq_true (by kernel_rfl)) k0 bel lt0) (trodAll_cons_mk (Below.trod laidOut (by kernel_rfl) (of_decide_eq_true (by kernel_rfl)) k1 bel lt1) trodAll_mk0)), rfl, bel.frame _, fun h => by cases h⟩
theorem over : Rows.sessionOnceUptoRow.holds Try.pinned (Rows.OpenSpec.upto Rows.sessionOnceSpec) :=
  OpenClaim.holds_of_cond 7 Try.f7 rfl rfl rfl rfl rfl rfl rfl ⟨rfl, rfl, rfl, rfl, rfl⟩ rfl rfl rfl rfl rfl (by kernel_rfl) Try.func7 (by kernel_rfl)
    (of_decide_eq_true (by kernel_rfl)) (by unfold Func.isWrapper; first | (rw [if_pos (by decide +kernel)]; kernel_rfl) | (rw [if_neg (by decide +kernel)]; exact ⟨rfl, rfl⟩))
    (fun os started H enc _ F => lifted os started H enc F)
end RowSessionOnce
/-- The row. -/
theorem sessionOnce_holds : Rows.SessionOnceUptoSaid := RowSessionOnce.over
#print axioms sessionOnce_holds
end Go.Proofs.Ytkipijdbkkcioaa

