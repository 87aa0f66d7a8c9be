/- ImageBack: the row and its card. No condition. -/
import Derived.Test.YtodledidabdkaaaDoorM14
import Derived.Test.YtodledidabdkaaaDoorWV
import Derived.Test.YtodledidabdkaaaDoorTie
import Derived.Test.YtodledidabdkaaaDoorCards
import Derived.SevenTiedAt
namespace Go.Proofs.YtodledidabdkaaaDoor
open Go.ChangeShapes Go.WideShapes Go.RowKit Go.Deep
set_option linter.unusedVariables false
theorem imageBack_walk (W : World) {cs0 : Array Value} (x0 : KeyT) (rel0 : rdKey.rel W x0 (Value.agg cs0).cells.toList) (fit0 : rdKey.fits x0) {d0 : Nat} (bulk0 : rdKey.bulk x0 ≤ d0) {cs1 : Array Value} (x1 : KeyT) (rel1 : rdKey.rel W x1 (Value.agg cs1).cells.toList) (fit1 : rdKey.fits x1) {d1 : Nat} (bulk1 : rdKey.bulk x1 ≤ d1) {A2 : Option Addr} {n2 c2 : Nat} (x2 : SlV PairT) (rel2 : rdPairs.rel W x2 (Value.slice A2 n2 c2).cells.toList) (fit2 : rdPairs.fits x2) {d2 : Nat} (bulk2 : rdPairs.bulk x2 ≤ d2) (hg : Gl W) :
    Calls Tryd.prog 6 #[.agg cs0, .agg cs1, .slice A2 n2 c2] W fun e w' => e = .returned (.bool true) ∧ Kp All W w' := by
  obtain ⟨a0, a1, rfl, ha0, ha1⟩ := key_of rel0
  obtain ⟨b0, b1, rfl, hb0, hb1⟩ := key_of rel1
  obtain ⟨e, h1⟩ := pairs_rd rel2
  have e : [Value.slice A2 n2 c2] = [.slice x2.A x2.xs.length x2.c] := e
  injection e with e _
  injection e with e1 e2 e3
  subst e1 e2 e3
  exact imageBack_any a0 a1 b0 b1 ha0 ha1 hb0 hb1 _ _ _ (toSl x2) (toSl_len _) (pairs_szs fit2) W hg h1
namespace RowImageBack
open Go.ChangeShapes Go.WideShapes Go.ChangeAt Go.RowKit
open Go.ChangeMaps (open_string shut_string)
set_option linter.unusedVariables false
theorem own : ownKnob Tryd.prog.godebug = none := by kernel_rfl
theorem laidOut : laidOutB Tryd.prog = true := by kernel_rfl
set_option maxRecDepth 100000 in
set_option maxHeartbeats 1000000 in
theorem lifted (os : Os) (started : os.Started) (H : Type) (enc : TypeId × Value → H) :
    ReturnsInHanded {} Tryd.checked os 6 .any (fun w args => (Rows.imageBackSpec.pre enc Tryd.prog Tryd.f6 [] false w args ∧ laidMetH Tryd.prog laidL w) ∧ sizedMet enc Tryd.prog Tryd.f6 (OpenSpec.ofChange Rows.imageBackSpec) false w args) (Rows.imageBackSpec.post enc Tryd.prog Tryd.f6 false true false false) := by
  refine returnsInHanded_of_change_and (C := Tryd.checked) (X := fun w _ => laidMetH Tryd.prog laidL w) (fun _ _ _ hh h => h.of_heap hh) own started (by kernel_rfl) Tryd.func6
    (ChangeSpec.witness_shaped (enc := enc) (C := Tryd.checked) (os := os) (X := fun w _ => laidMetH Tryd.prog laidL w) false (World.doorLaid Tryd.prog 400 os) #[.agg #[.int .u64 0, .int .u64 0], .agg #[.int .u64 0, .int .u64 0], .slice none 0 0] 8 rfl (World.shaped_of_RefB (by kernel_rfl) (by kernel_rfl)) (by kernel_rfl) (by kernel_rfl) (by kernel_rfl) (door_met os _)) ?_
  intro W base args ds gs before hval0 hW hcnd hsz0 hlaid _
  have hgl : Gl W := gl_of_laid hlaid
  have hsz : (DataW.weightsEach Tryd.prog (Tryd.f6.params.toList ++ Rows.imageBackSpec.plain.varTypes Tryd.prog) (ds ++ gs)).all (· ≤ reachBytes) = true := hsz0
  have hval : ∀ (j : Nat) t v, Tryd.f6.params[j]? = some t → args[j]? = some v → Value.okWide Tryd.prog W .any base t v := hval0
  have hW' := hW
  obtain ⟨p, q, hA0, hV, rfl, hfz, hnd⟩ := hW
  have hA : DataW.TrodAll enc Tryd.prog W 0 (fun _ => true) true Tryd.f6.params.toList args.toList ds p := hA0
  rw [Tryd.params6] at hA hval hsz
  obtain ⟨v0, vs0, d0, ds0, p0, q0, hargs, rfl, rfl, h0, r0⟩ := trodAll_cons hA
  obtain ⟨v1, vs1, d1, ds1, p1, q1, rfl, rfl, rfl, h1, r1⟩ := trodAll_cons r0
  obtain ⟨v2, vs2, d2, ds2, p2, q2, rfl, rfl, rfl, h2, r2⟩ := trodAll_cons r1
  obtain ⟨rfl, rfl, rfl⟩ := trodAll_nil r2
  obtain rfl : args = #[v0, v1, v2] := by cases args; simp_all
  obtain ⟨rfl, rfl⟩ := trodVars_none hV
  have k0 := h0
  have lt0 : ∀ x ∈ p0, x.block < W.heap.size := by obtain ⟨m, hm⟩ := k0; exact DataW.trod_lt m _ _ _ hm
  have wt0 : (d0.weights Tryd.prog 28).all (· ≤ reachBytes) = true := List.all_eq_true.2 fun n hn => List.all_eq_true.1 hsz n (DataW.weights_mem_each (j := 0) (t := 28) rfl rfl n hn)
  obtain ⟨cs0, rfl, _⟩ := okWide_struct Tryd.underlying28 (hval 0 28 v0 rfl rfl)
  obtain ⟨x0, rel0, fit0, bulk0⟩ : ∃ x, rdKey.rel W x _ ∧ rdKey.fits x ∧ rdKey.bulk x ≤ Rows.uptoBulk d0 := by
    obtain ⟨m, hm⟩ := k0
    obtain ⟨x, x1, x2, x3⟩ := rdKey.opn hm
    exact ⟨x, x1, x2 wt0, x3⟩
  have k1 := h1
  have lt1 : ∀ x ∈ p1, x.block < W.heap.size := by obtain ⟨m, hm⟩ := k1; exact DataW.trod_lt m _ _ _ hm
  have wt1 : (d1.weights Tryd.prog 28).all (· ≤ reachBytes) = true := List.all_eq_true.2 fun n hn => List.all_eq_true.1 hsz n (DataW.weights_mem_each (j := 1) (t := 28) rfl rfl n hn)
  obtain ⟨cs1, rfl, _⟩ := okWide_struct Tryd.underlying28 (hval 1 28 v1 rfl rfl)
  obtain ⟨x1, rel1, fit1, bulk1⟩ : ∃ x, rdKey.rel W x _ ∧ rdKey.fits x ∧ rdKey.bulk x ≤ Rows.uptoBulk d1 := by
    obtain ⟨m, hm⟩ := k1
    obtain ⟨x, x1, x2, x3⟩ := rdKey.opn hm
    exact ⟨x, x1, x2 wt1, x3⟩
  have k2 := h2
  have lt2 : ∀ x ∈ p2, x.block < W.heap.size := by obtain ⟨m, hm⟩ := k2; exact DataW.trod_lt m _ _ _ hm
  have wt2 : (d2.weights Tryd.prog 29).all (· ≤ reachBytes) = true := List.all_eq_true.2 fun n hn => List.all_eq_true.1 hsz n (DataW.weights_mem_each (j := 2) (t := 29) rfl rfl n hn)
  obtain ⟨a2, len2, cap2, rfl⟩ := okWide_slice Tryd.underlying29 (hval 2 29 v2 rfl rfl)
  obtain ⟨x2, rel2, fit2, bulk2⟩ : ∃ x, rdPairs.rel W x _ ∧ rdPairs.fits x ∧ rdPairs.bulk x ≤ Rows.uptoBulk d2 := by
    obtain ⟨m, hm⟩ := k2
    obtain ⟨x, x1, x2, x3⟩ := rdPairs.opn hm
    exact ⟨x, x1, x2 wt2, x3⟩
  clear hA0 hval0 hsz0 hsz
  refine (imageBack_walk W x0 rel0 fit0 bulk0 x1 rel1 fit1 bulk1 x2 rel2 fit2 bulk2 hgl).mono fun e W' ⟨he, hkp⟩ => ?_
  have bel := hkp.below
  subst he
  exact ⟨_, rfl, _, _, _, [], _, [], hW', trodAll_mk1 (shut_bool Tryd.underlying4 _), (trodAll_cons_mk (Below.trod laidOut (by kernel_rfl) (of_decide_eq_true (by kernel_rfl)) k0 bel lt0) (trodAll_cons_mk (Below.trod laidOut (by kernel_rfl) (of_decide_eq_true (by kernel_rfl)) k1 bel lt1) (trodAll_cons_mk (Below.trod laidOut (by kernel_rfl) (of_decide_eq_true (by kernel_rfl)) k2 bel lt2) trodAll_mk0))), rfl, bel.frame _, fun h => by cases h⟩
theorem over : Rows.imageBackRow.holds Tryd.pinned (OpenSpec.ofChange Rows.imageBackSpec) :=
  OpenClaim.holds_of_wide 6 Tryd.f6 rfl rfl rfl rfl rfl rfl rfl ⟨rfl, rfl, rfl, rfl, rfl⟩ rfl rfl rfl rfl rfl (by kernel_rfl) Tryd.func6 (by kernel_rfl)
    (of_decide_eq_true (by kernel_rfl)) (by unfold Func.isWrapper; first | (rw [if_pos (by decide +kernel)]; kernel_rfl) | (rw [if_neg (by decide +kernel)]; exact ⟨rfl, rfl⟩))
    (fun os started H enc _ => lifted os started H enc)
end RowImageBack
/-- The row. -/
theorem imageBack_holds : Rows.ImageBackSaid := RowImageBack.over
/-- THE TIED CARD. -/
theorem imageBack_card_holds : Rows.ImageBackCardSaid :=
  Claim7.holds_tied_plain_at .later [] [.data] true (true, "c7c03d8cc4b96320f8ab7305d06a31276b384ee694a56c1cf69c089a62b6e7ad") false imageBack_holds (fun _ h => by cases h) (by kernel_rfl) (fun _ h => by cases h) imageBack_row_tie rfl ⟨rfl, rfl⟩ (by kernel_rfl) rfl
    (fun f fn hf hfn => by
      obtain rfl : f = 6 := Option.some.inj ((show Tryd.prog.funcNamed "corbel/corbellaw07.ImageBack" = some 6 by kernel_rfl).symm.trans hf) |>.symm
      obtain rfl : fn = Tryd.f6 := (Option.some.inj (Tryd.func6.symm.trans hfn)).symm
      exact ⟨by kernel_rfl, fun j t ht => by
        rw [Tryd.params6] at ht
        have hm : t ∈ ([28, 28, 29] : List TypeId) := by simpa using Array.mem_of_getElem? ht
        have hall : (([28, 28, 29] : List TypeId).all fun u => !Tryd.prog.wantsStandIn u) = true := by kernel_rfl
        exact (show Tryd.prog.wantsStandIn t = false by simpa using List.all_eq_true.1 hall t hm)⟩)
    (by kernel_rfl)
#print axioms imageBack_card_holds
#print axioms imageBack_holds
end Go.Proofs.YtodledidabdkaaaDoor
