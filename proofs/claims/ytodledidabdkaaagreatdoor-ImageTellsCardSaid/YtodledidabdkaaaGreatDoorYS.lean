/- ImageTells: the row and its card. No condition. -/
import Derived.Test.YtodledidabdkaaaGreatDoorM20
import Derived.Test.YtodledidabdkaaaGreatDoorWV
import Derived.Test.YtodledidabdkaaaGreatDoorTie
import Derived.Test.YtodledidabdkaaaGreatDoorCards
import Derived.SevenTiedAt
namespace Go.Proofs.YtodledidabdkaaaGreatDoor
open Go.ChangeShapes Go.WideShapes Go.RowKit Go.Deep
set_option linter.unusedVariables false
theorem imageTells_walk (W : World) {cs0 : Array Value} (x0 : KeyT) (rel0 : rdKey.rel W x0 (Value.agg cs0).cells.toList) (fit0 : rdKey.fits x0) {d0 : Nat} (bulk0 : rdKey.bulk x0 ≤ d0) {A1 : Option Addr} {n1 c1 : Nat} (x1 : SlV PairT) (rel1 : rdPairs.rel W x1 (Value.slice A1 n1 c1).cells.toList) (fit1 : rdPairs.fits x1) {d1 : Nat} (bulk1 : rdPairs.bulk x1 ≤ d1) {cs2 : Array Value} (x2 : ByteArray × ByteArray × Int × Unit) (rel2 : rdAsk.rel W x2 (Value.agg cs2).cells.toList) (fit2 : rdAsk.fits x2) {d2 : Nat} (bulk2 : rdAsk.bulk x2 ≤ d2) (hg : Gl W) :
    Calls Tryz.prog 3 #[.agg cs0, .slice A1 n1 c1, .agg cs2] W fun e w' => e = .returned (.bool true) ∧ Kp All W w' := by
  obtain ⟨a0, a1, rfl, ha0, ha1⟩ := key_of rel0
  obtain rfl := ask_of rel2
  obtain ⟨e, h1⟩ := pairs_rd rel1
  have e : [Value.slice A1 n1 c1] = [.slice x1.A x1.xs.length x1.c] := e
  injection e with e _
  injection e with e1 e2 e3
  subst e1 e2 e3
  exact imageTells_any a0 a1 ha0 ha1 _ _ _ (toSl x1) _ _ _ (toSl_len _) (pairs_szs fit1) W hg h1
namespace RowImageTells
open Go.ChangeShapes Go.WideShapes Go.ChangeAt Go.RowKit
open Go.ChangeMaps (open_string shut_string)
set_option linter.unusedVariables false
theorem own : ownKnob Tryz.prog.godebug = none := by kernel_rfl
theorem laidOut : laidOutB Tryz.prog = true := by kernel_rfl
set_option maxRecDepth 100000 in
set_option maxHeartbeats 1000000 in
theorem lifted (os : Os) (started : os.Started) (H : Type) (enc : TypeId × Value → H) :
    ReturnsInHanded {} Tryz.checked os 3 .any (fun w args => (Rows.imageTellsSpec.pre enc Tryz.prog Tryz.f3 [] false w args ∧ laidMetH Tryz.prog laidL w) ∧ sizedMet enc Tryz.prog Tryz.f3 (OpenSpec.ofChange Rows.imageTellsSpec) false w args) (Rows.imageTellsSpec.post enc Tryz.prog Tryz.f3 false true false false) := by
  refine returnsInHanded_of_change_and (C := Tryz.checked) (X := fun w _ => laidMetH Tryz.prog laidL w) (fun _ _ _ hh h => h.of_heap hh) own started (by kernel_rfl) Tryz.func3
    (ChangeSpec.witness_shaped (enc := enc) (C := Tryz.checked) (os := os) (X := fun w _ => laidMetH Tryz.prog laidL w) false (World.doorLaid Tryz.prog 400 os) #[.agg #[.int .u64 0, .int .u64 0], .slice none 0 0, .agg #[.string ByteArray.empty, .string ByteArray.empty, .int .i64 0]] 8 rfl (World.shaped_of_RefB (by kernel_rfl) (by kernel_rfl)) (by kernel_rfl) (by kernel_rfl) (by kernel_rfl) (door_met os _)) ?_
  intro W base args ds gs before hval0 hW hcnd hsz0 hlaid _
  have hgl : Gl W := gl_of_laid hlaid
  have hsz : (DataW.weightsEach Tryz.prog (Tryz.f3.params.toList ++ Rows.imageTellsSpec.plain.varTypes Tryz.prog) (ds ++ gs)).all (· ≤ reachBytes) = true := hsz0
  have hval : ∀ (j : Nat) t v, Tryz.f3.params[j]? = some t → args[j]? = some v → Value.okWide Tryz.prog W .any base t v := hval0
  have hW' := hW
  obtain ⟨p, q, hA0, hV, rfl, hfz, hnd⟩ := hW
  have hA : DataW.TrodAll enc Tryz.prog W 0 (fun _ => true) true Tryz.f3.params.toList args.toList ds p := hA0
  rw [Tryz.params3] at hA hval hsz
  obtain ⟨v0, vs0, d0, ds0, p0, q0, hargs, rfl, rfl, h0, r0⟩ := trodAll_cons hA
  obtain ⟨v1, vs1, d1, ds1, p1, q1, rfl, rfl, rfl, h1, r1⟩ := trodAll_cons r0
  obtain ⟨v2, vs2, d2, ds2, p2, q2, rfl, rfl, rfl, h2, r2⟩ := trodAll_cons r1
  obtain ⟨rfl, rfl, rfl⟩ := trodAll_nil r2
  obtain rfl : args = #[v0, v1, v2] := by cases args; simp_all
  obtain ⟨rfl, rfl⟩ := trodVars_none hV
  have k0 := h0
  have lt0 : ∀ x ∈ p0, x.block < W.heap.size := by obtain ⟨m, hm⟩ := k0; exact DataW.trod_lt m _ _ _ hm
  have wt0 : (d0.weights Tryz.prog 24).all (· ≤ reachBytes) = true := List.all_eq_true.2 fun n hn => List.all_eq_true.1 hsz n (DataW.weights_mem_each (j := 0) (t := 24) rfl rfl n hn)
  obtain ⟨cs0, rfl, _⟩ := okWide_struct Tryz.underlying24 (hval 0 24 v0 rfl rfl)
  obtain ⟨x0, rel0, fit0, bulk0⟩ : ∃ x, rdKey.rel W x _ ∧ rdKey.fits x ∧ rdKey.bulk x ≤ Rows.uptoBulk d0 := by
    obtain ⟨m, hm⟩ := k0
    obtain ⟨x, x1, x2, x3⟩ := rdKey.opn hm
    exact ⟨x, x1, x2 wt0, x3⟩
  have k1 := h1
  have lt1 : ∀ x ∈ p1, x.block < W.heap.size := by obtain ⟨m, hm⟩ := k1; exact DataW.trod_lt m _ _ _ hm
  have wt1 : (d1.weights Tryz.prog 25).all (· ≤ reachBytes) = true := List.all_eq_true.2 fun n hn => List.all_eq_true.1 hsz n (DataW.weights_mem_each (j := 1) (t := 25) rfl rfl n hn)
  obtain ⟨a1, len1, cap1, rfl⟩ := okWide_slice Tryz.underlying25 (hval 1 25 v1 rfl rfl)
  obtain ⟨x1, rel1, fit1, bulk1⟩ : ∃ x, rdPairs.rel W x _ ∧ rdPairs.fits x ∧ rdPairs.bulk x ≤ Rows.uptoBulk d1 := by
    obtain ⟨m, hm⟩ := k1
    obtain ⟨x, x1, x2, x3⟩ := rdPairs.opn hm
    exact ⟨x, x1, x2 wt1, x3⟩
  have k2 := h2
  have lt2 : ∀ x ∈ p2, x.block < W.heap.size := by obtain ⟨m, hm⟩ := k2; exact DataW.trod_lt m _ _ _ hm
  have wt2 : (d2.weights Tryz.prog 27).all (· ≤ reachBytes) = true := List.all_eq_true.2 fun n hn => List.all_eq_true.1 hsz n (DataW.weights_mem_each (j := 2) (t := 27) rfl rfl n hn)
  obtain ⟨cs2, rfl, _⟩ := okWide_struct Tryz.underlying27 (hval 2 27 v2 rfl rfl)
  obtain ⟨x2, rel2, fit2, bulk2⟩ : ∃ x, rdAsk.rel W x _ ∧ rdAsk.fits x ∧ rdAsk.bulk x ≤ Rows.uptoBulk d2 := by
    obtain ⟨m, hm⟩ := k2
    obtain ⟨x, x1, x2, x3⟩ := rdAsk.opn hm
    exact ⟨x, x1, x2 wt2, x3⟩
  clear hA0 hval0 hsz0 hsz
  refine (imageTells_walk W x0 rel0 fit0 bulk0 x1 rel1 fit1 bulk1 x2 rel2 fit2 bulk2 hgl).mono fun e W' ⟨he, hkp⟩ => ?_
  have bel := hkp.below
  subst he
  exact ⟨_, rfl, _, _, _, [], _, [], hW', trodAll_mk1 (shut_bool Tryz.underlying4 _), (trodAll_cons_mk (Below.trod laidOut (by kernel_rfl) (of_decide_eq_true (by kernel_rfl)) k0 bel lt0) (trodAll_cons_mk (Below.trod laidOut (by kernel_rfl) (of_decide_eq_true (by kernel_rfl)) k1 bel lt1) (trodAll_cons_mk (Below.trod laidOut (by kernel_rfl) (of_decide_eq_true (by kernel_rfl)) k2 bel lt2) trodAll_mk0))), rfl, bel.frame _, fun h => by cases h⟩
theorem over : Rows.imageTellsRow.holds Tryz.pinned (OpenSpec.ofChange Rows.imageTellsSpec) :=
  OpenClaim.holds_of_wide 3 Tryz.f3 rfl rfl rfl rfl rfl rfl rfl ⟨rfl, rfl, rfl, rfl, rfl⟩ rfl rfl rfl rfl rfl (by kernel_rfl) Tryz.func3 (by kernel_rfl)
    (of_decide_eq_true (by kernel_rfl)) (by unfold Func.isWrapper; first | (rw [if_pos (by decide +kernel)]; kernel_rfl) | (rw [if_neg (by decide +kernel)]; exact ⟨rfl, rfl⟩))
    (fun os started H enc _ => lifted os started H enc)
end RowImageTells
/-- The row. -/
theorem imageTells_holds : Rows.ImageTellsSaid := RowImageTells.over
/-- THE TIED CARD. -/
theorem imageTells_card_holds : Rows.ImageTellsCardSaid :=
  Claim7.holds_tied_plain_at .later [] [.data] true (true, "94a0892c2c80ee5f8e9dc797a0859e28407ef459b3783ac8e303b9f8c19b2015") false imageTells_holds (fun _ h => by cases h) (by kernel_rfl) (fun _ h => by cases h) imageTells_row_tie rfl ⟨rfl, rfl⟩ (by kernel_rfl) rfl
    (fun f fn hf hfn => by
      obtain rfl : f = 3 := Option.some.inj ((show Tryz.prog.funcNamed "corbel/corbellaw07.ImageTells" = some 3 by kernel_rfl).symm.trans hf) |>.symm
      obtain rfl : fn = Tryz.f3 := (Option.some.inj (Tryz.func3.symm.trans hfn)).symm
      exact ⟨by kernel_rfl, fun j t ht => by
        rw [Tryz.params3] at ht
        have hm : t ∈ ([24, 25, 27] : List TypeId) := by simpa using Array.mem_of_getElem? ht
        have hall : (([24, 25, 27] : List TypeId).all fun u => !Tryz.prog.wantsStandIn u) = true := by kernel_rfl
        exact (show Tryz.prog.wantsStandIn t = false by simpa using List.all_eq_true.1 hall t hm)⟩)
    (by kernel_rfl)
#print axioms imageTells_card_holds
#print axioms imageTells_holds
end Go.Proofs.YtodledidabdkaaaGreatDoor
