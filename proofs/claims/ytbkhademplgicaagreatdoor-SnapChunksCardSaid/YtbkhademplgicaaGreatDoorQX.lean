/- SnapChunks: the row and its card. No condition. -/
import Derived.Test.YtbkhademplgicaaGreatDoorM23
import Derived.Test.YtbkhademplgicaaGreatDoorQI
import Derived.Test.YtbkhademplgicaaGreatDoorNQ
import Derived.Test.YtbkhademplgicaaGreatDoorTie
import Derived.Test.YtbkhademplgicaaGreatDoorCards
import Derived.SevenTiedAt
namespace Go.Proofs.YtbkhademplgicaaGreatDoor
open Go.ChangeShapes Go.WideShapes Go.RowKit Go.Deep
set_option linter.unusedVariables false
noncomputable def rdStrN : Rdr Tryz.prog 9 ByteArray := .string Tryz.underlying9 (by kernel_rfl)
noncomputable def rdName : Rdr Tryz.prog 29 (Int × ByteArray × Unit) := .struct (.cons rdI rfl (.cons rdStrN rfl (.nil _))) Tryz.underlying29 (by kernel_rfl)
theorem name_of {w : World} {x : Int × ByteArray × Unit} {cs : List Value} (h : rdName.rel w x cs) : cs = [.int .i64 x.1, .string x.2.1] ∧ -9223372036854775808 ≤ x.1 ∧ x.1 ≤ 9223372036854775807 := by
  obtain ⟨c1, c2, rfl, ⟨rfl, w1⟩, c3, c4, rfl, h2, rfl⟩ := h
  obtain ⟨h1, h3⟩ := wf_int w1
  have h2' : c3 = [.string x.2.1] := h2.1
  subst h2'
  exact ⟨rfl, h1, h3⟩
theorem snapChunks_walk (W : World) {cs : Array Value} (x0 : SnapT) (rel0 : rdSnap.rel W x0 (Value.agg cs).cells.toList) (fit0 : rdSnap.fits x0) {d0 : Nat} (bulk0 : rdSnap.bulk x0 ≤ d0)
    {a1 : Option Addr} {len1 cap1 : Nat} (x1 : SlV Int) (rel1 : rdBytes.rel W x1 (Value.slice a1 len1 cap1).cells.toList) (fit1 : rdBytes.fits x1) {d1 : Nat} (bulk1 : rdBytes.bulk x1 ≤ d1)
    {cs2 : Array Value} (x2 : Int × ByteArray × Unit) (rel2 : rdName.rel W x2 (Value.agg cs2).cells.toList) (fit2 : rdName.fits x2) {d2 : Nat} (bulk2 : rdName.bulk x2 ≤ d2) (hg : Gl W) :
    Calls Tryz.prog 3 #[.agg cs, .slice a1 len1 cap1, .agg cs2] W fun e w' => e = .returned (.bool true) ∧ Kp All W w' := by
  obtain ⟨h1, h2⟩ := snap_of rel0
  have h1' : cs.toList = snCells x0 := h1
  obtain rfl : cs = (snCells x0).toArray := by rw [← h1']
  obtain ⟨h3, h4, _⟩ := bytes_of rel1
  have h3' : [Value.slice a1 len1 cap1] = [.slice x1.A x1.xs.length x1.c] := h3
  simp only [List.cons.injEq, Value.slice.injEq, and_true] at h3'
  obtain ⟨rfl, rfl, rfl⟩ := h3'
  obtain ⟨h5, u1, u2⟩ := name_of rel2
  have h5' : cs2.toList = [.int .i64 x2.1, .string x2.2.1] := h5
  obtain rfl : cs2 = #[.int .i64 x2.1, .string x2.2.1] := by
    have e : cs2 = (cs2.toList).toArray := by simp
    rw [e, h5']
  exact snapChunks_any (toSn x0) _ _ _ _ _ _ _ _ _ (snap_fits fit0) _ _ _ (toBy x1.xs) (toBy_len _) x2.1 u1 u2 x2.2.1 W hg h2 h4
namespace RowSnapChunks
open Go.ChangeShapes Go.WideShapes Go.ChangeAt Go.RowKit
open Go.ChangeMaps (open_string shut_string)
set_option linter.unusedVariables false
theorem own : ownKnob Tryz.prog.godebug = none := by kernel_rfl
theorem laidOut : laidOutB Tryz.prog = true := by kernel_rfl
set_option maxRecDepth 100000 in
set_option maxHeartbeats 1000000 in
theorem lifted (os : Os) (started : os.Started) (H : Type) (enc : TypeId × Value → H) :
    ReturnsInHanded {} Tryz.checked os 3 .any (fun w args => (Rows.snapChunksSpec.pre enc Tryz.prog Tryz.f3 [] false w args ∧ laidMetH Tryz.prog laidL w) ∧ sizedMet enc Tryz.prog Tryz.f3 (OpenSpec.ofChange Rows.snapChunksSpec) false w args) (Rows.snapChunksSpec.post enc Tryz.prog Tryz.f3 false true false false) := by
  refine returnsInHanded_of_change_and (C := Tryz.checked) (X := fun w _ => laidMetH Tryz.prog laidL w) (fun _ _ _ hh h => h.of_heap hh) own started (by kernel_rfl) Tryz.func3
    (ChangeSpec.witness_shaped (enc := enc) (C := Tryz.checked) (os := os) (X := fun w _ => laidMetH Tryz.prog laidL w) false (World.doorLaid Tryz.prog 400 os) #[.agg #[.int .i64 0, .int .i64 0, .slice none 0 0, .slice none 0 0, .slice none 0 0], .slice none 0 0, .agg #[.int .i64 0, .string ByteArray.empty]] 8 rfl (World.shaped_of_RefB (by kernel_rfl) (by kernel_rfl)) (by kernel_rfl) (by kernel_rfl) (by kernel_rfl) (door_met os _)) ?_
  intro W base args ds gs before hval0 hW hcnd hsz0 hlaid _
  have hgl : Gl W := gl_of_laid hlaid
  have hsz : (DataW.weightsEach Tryz.prog (Tryz.f3.params.toList ++ Rows.snapChunksSpec.plain.varTypes Tryz.prog) (ds ++ gs)).all (· ≤ reachBytes) = true := hsz0
  have hval : ∀ (j : Nat) t v, Tryz.f3.params[j]? = some t → args[j]? = some v → Value.okWide Tryz.prog W .any base t v := hval0
  have hW' := hW
  obtain ⟨p, q, hA0, hV, rfl, hfz, hnd⟩ := hW
  have hA : DataW.TrodAll enc Tryz.prog W 0 (fun _ => true) true Tryz.f3.params.toList args.toList ds p := hA0
  rw [Tryz.params3] at hA hval hsz
  obtain ⟨v0, vs0, d0, ds0, p0, q0, hargs, rfl, rfl, h0, r0⟩ := trodAll_cons hA
  obtain ⟨v1, vs1, d1, ds1, p1, q1, rfl, rfl, rfl, h1, r1⟩ := trodAll_cons r0
  obtain ⟨v2, vs2, d2, ds2, p2, q2, rfl, rfl, rfl, h2, r2⟩ := trodAll_cons r1
  obtain ⟨rfl, rfl, rfl⟩ := trodAll_nil r2
  obtain rfl : args = #[v0, v1, v2] := by cases args; simp_all
  obtain ⟨rfl, rfl⟩ := trodVars_none hV
  have k0 := h0
  have lt0 : ∀ x ∈ p0, x.block < W.heap.size := by obtain ⟨m, hm⟩ := k0; exact DataW.trod_lt m _ _ _ hm
  have wt0 : (d0.weights Tryz.prog 27).all (· ≤ reachBytes) = true := List.all_eq_true.2 fun n hn => List.all_eq_true.1 hsz n (DataW.weights_mem_each (j := 0) (t := 27) rfl rfl n hn)
  obtain ⟨cs0, rfl, _⟩ := okWide_struct Tryz.underlying27 (hval 0 27 v0 rfl rfl)
  obtain ⟨x0, rel0, fit0, bulk0⟩ : ∃ x, rdSnap.rel W x _ ∧ rdSnap.fits x ∧ rdSnap.bulk x ≤ Rows.uptoBulk d0 := by
    obtain ⟨m, hm⟩ := k0
    obtain ⟨x, x1, x2, x3⟩ := rdSnap.opn hm
    exact ⟨x, x1, x2 wt0, x3⟩
  have k1 := h1
  have lt1 : ∀ x ∈ p1, x.block < W.heap.size := by obtain ⟨m, hm⟩ := k1; exact DataW.trod_lt m _ _ _ hm
  have wt1 : (d1.weights Tryz.prog 25).all (· ≤ reachBytes) = true := List.all_eq_true.2 fun n hn => List.all_eq_true.1 hsz n (DataW.weights_mem_each (j := 1) (t := 25) rfl rfl n hn)
  obtain ⟨a1, len1, cap1, rfl⟩ := okWide_slice Tryz.underlying25 (hval 1 25 v1 rfl rfl)
  obtain ⟨x1, rel1, fit1, bulk1⟩ : ∃ x, rdBytes.rel W x _ ∧ rdBytes.fits x ∧ rdBytes.bulk x ≤ Rows.uptoBulk d1 := by
    obtain ⟨m, hm⟩ := k1
    obtain ⟨x, x1, x2, x3⟩ := rdBytes.opn hm
    exact ⟨x, x1, x2 wt1, x3⟩
  have k2 := h2
  have lt2 : ∀ x ∈ p2, x.block < W.heap.size := by obtain ⟨m, hm⟩ := k2; exact DataW.trod_lt m _ _ _ hm
  have wt2 : (d2.weights Tryz.prog 29).all (· ≤ reachBytes) = true := List.all_eq_true.2 fun n hn => List.all_eq_true.1 hsz n (DataW.weights_mem_each (j := 2) (t := 29) rfl rfl n hn)
  obtain ⟨cs2, rfl, _⟩ := okWide_struct Tryz.underlying29 (hval 2 29 v2 rfl rfl)
  obtain ⟨x2, rel2, fit2, bulk2⟩ : ∃ x, rdName.rel W x _ ∧ rdName.fits x ∧ rdName.bulk x ≤ Rows.uptoBulk d2 := by
    obtain ⟨m, hm⟩ := k2
    obtain ⟨x, x1, x2, x3⟩ := rdName.opn hm
    exact ⟨x, x1, x2 wt2, x3⟩
  clear hA0 hval0 hsz0 hsz
  refine (snapChunks_walk W x0 rel0 fit0 bulk0 x1 rel1 fit1 bulk1 x2 rel2 fit2 bulk2 hgl).mono fun e W' ⟨he, hkp⟩ => ?_
  have bel := hkp.below
  subst he
  exact ⟨_, rfl, _, _, _, [], _, [], hW', trodAll_mk1 (shut_bool Tryz.underlying4 _), (trodAll_cons_mk (Below.trod laidOut (by kernel_rfl) (of_decide_eq_true (by kernel_rfl)) k0 bel lt0) (trodAll_cons_mk (Below.trod laidOut (by kernel_rfl) (of_decide_eq_true (by kernel_rfl)) k1 bel lt1) (trodAll_cons_mk (Below.trod laidOut (by kernel_rfl) (of_decide_eq_true (by kernel_rfl)) k2 bel lt2) trodAll_mk0))), rfl, bel.frame _, fun h => by cases h⟩
theorem over : Rows.snapChunksRow.holds Tryz.pinned (OpenSpec.ofChange Rows.snapChunksSpec) :=
  OpenClaim.holds_of_wide 3 Tryz.f3 rfl rfl rfl rfl rfl rfl rfl ⟨rfl, rfl, rfl, rfl, rfl⟩ rfl rfl rfl rfl rfl (by kernel_rfl) Tryz.func3 (by kernel_rfl)
    (of_decide_eq_true (by kernel_rfl)) (by unfold Func.isWrapper; first | (rw [if_pos (by decide +kernel)]; kernel_rfl) | (rw [if_neg (by decide +kernel)]; exact ⟨rfl, rfl⟩))
    (fun os started H enc _ => lifted os started H enc)
end RowSnapChunks
/-- The row. -/
theorem snapChunks_holds : Rows.SnapChunksSaid := RowSnapChunks.over
/-- THE TIED CARD. -/
theorem snapChunks_card_holds : Rows.SnapChunksCardSaid :=
  Claim7.holds_tied_plain_at .later [] [.data, .data, .data, .sentinel, .sentinel] true (true, "90c0824a76eeeaa5dc277ecaed233c5dc760680bca523bb1288f5214c1408b8c") true snapChunks_holds (fun _ h => by cases h) (by kernel_rfl) (fun _ h => by cases h) snapChunks_row_tie rfl ⟨rfl, rfl⟩ (by kernel_rfl) rfl
    (fun f fn hf hfn => by
      obtain rfl : f = 3 := Option.some.inj ((show Tryz.prog.funcNamed "corbel/corbellaw12.SnapChunks" = some 3 by kernel_rfl).symm.trans hf) |>.symm
      obtain rfl : fn = Tryz.f3 := (Option.some.inj (Tryz.func3.symm.trans hfn)).symm
      exact ⟨by kernel_rfl, fun j t ht => by
        rw [Tryz.params3] at ht
        have hm : t ∈ ([27, 25, 29] : List TypeId) := by simpa using Array.mem_of_getElem? ht
        have hall : (([27, 25, 29] : List TypeId).all fun u => !Tryz.prog.wantsStandIn u) = true := by kernel_rfl
        exact (show Tryz.prog.wantsStandIn t = false by simpa using List.all_eq_true.1 hall t hm)⟩)
    (by kernel_rfl)
#print axioms snapChunks_card_holds
#print axioms snapChunks_holds
end Go.Proofs.YtbkhademplgicaaGreatDoor
