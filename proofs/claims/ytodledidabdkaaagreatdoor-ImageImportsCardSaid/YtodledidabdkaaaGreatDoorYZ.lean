/- ImageImports: the row and its card. No condition. -/
import Derived.Test.YtodledidabdkaaaGreatDoorM23
import Derived.Test.YtodledidabdkaaaGreatDoorWV
import Derived.Test.YtodledidabdkaaaGreatDoorTie
import Derived.Test.YtodledidabdkaaaGreatDoorCards
import Derived.SevenTiedAt
namespace Go.Proofs.YtodledidabdkaaaGreatDoor
open Go.ChangeShapes Go.WideShapes Go.RowKit Go.Deep
set_option linter.unusedVariables false
noncomputable def rdU8 : Rdr Tryz.prog 5 Int := .int Tryz.underlying5 (by kernel_rfl)
noncomputable def rdBytes : Rdr Tryz.prog 48 (SlV Int) := rdU8.slice Tryz.underlying48 (by kernel_rfl) (by decide)
def toBy (l : List Int) : By := l.map fun n => UInt8.ofNat n.toNat
theorem toBy_len (l : List Int) : (toBy l).length = l.length := by simp [toBy]
theorem bytes_rd {w : World} {s : SlV Int} {cs : List Value} (h : rdBytes.rel w s cs) : cs = [.slice s.A s.xs.length s.c] ∧ Foot All (Sl s.A s.xs.length s.c 1 (u8s (toBy s.xs))) w := by
  refine ⟨h.1, fun u hu => ?_⟩
  obtain ⟨_, h2, h3, h4⟩ := rdBytes.keep _ _ _ _ h hu
  refine ⟨by rw [u8s_len, toBy_len]; omega, h2, fun hn => ?_⟩
  obtain ⟨b, o, e, he⟩ := h4 hn
  refine ⟨b, o, e, fun j v hj => ?_⟩
  simp only [u8s, toBy, List.map_map, List.getElem?_map, Option.map_eq_some_iff] at hj
  obtain ⟨n, hn, rfl⟩ := hj
  obtain ⟨c, ⟨rfl, hw⟩, hcell⟩ := he j n hn
  have := hcell 0 _ rfl
  have e1 : o + j * rdU8.sz + 0 = o + j := by
    show o + j * 1 + 0 = o + j
    omega
  rw [e1] at this
  rw [this]
  have h1 : 0 ≤ n ∧ n < 256 := by
    simp [Lit.wf] at hw
    have e1 : IntKind.u8.min = 0 := rfl
    have e2 : IntKind.u8.max = 255 := rfl
    omega
  congr 2
  simp only [Function.comp, UInt8.toNat_ofNat']
  omega
theorem imageImports_walk (W : World) {A0 : Option Addr} {n0 c0 : Nat} (x0 : SlV Int) (rel0 : rdBytes.rel W x0 (Value.slice A0 n0 c0).cells.toList) (fit0 : rdBytes.fits x0) {d0 : Nat} (bulk0 : rdBytes.bulk x0 ≤ d0) {cs1 : Array Value} (x1 : KeyT) (rel1 : rdKey.rel W x1 (Value.agg cs1).cells.toList) (fit1 : rdKey.fits x1) {d1 : Nat} (bulk1 : rdKey.bulk x1 ≤ d1) (hg : Gl W) :
    Calls Tryz.prog 4 #[.slice A0 n0 c0, .agg cs1] W fun e w' => e = .returned (.bool true) ∧ Kp All W w' := by
  obtain ⟨a0, a1, rfl, ha0, ha1⟩ := key_of rel1
  obtain ⟨e, h1⟩ := bytes_rd rel0
  have e : [Value.slice A0 n0 c0] = [.slice x0.A x0.xs.length x0.c] := e
  injection e with e _
  injection e with e1 e2 e3
  subst e1 e2 e3
  exact imageImports_any a0 a1 ha0 ha1 _ _ _ (toBy x0.xs) (toBy_len _) W hg h1
namespace RowImageImports
open Go.ChangeShapes Go.WideShapes Go.ChangeAt Go.RowKit
open Go.ChangeMaps (open_string shut_string)
set_option linter.unusedVariables false
theorem own : ownKnob Tryz.prog.godebug = none := by kernel_rfl
theorem laidOut : laidOutB Tryz.prog = true := by kernel_rfl
set_option maxRecDepth 100000 in
set_option maxHeartbeats 1000000 in
theorem lifted (os : Os) (started : os.Started) (H : Type) (enc : TypeId × Value → H) :
    ReturnsInHanded {} Tryz.checked os 4 .any (fun w args => (Rows.imageImportsSpec.pre enc Tryz.prog Tryz.f4 [] false w args ∧ laidMetH Tryz.prog laidL w) ∧ sizedMet enc Tryz.prog Tryz.f4 (OpenSpec.ofChange Rows.imageImportsSpec) false w args) (Rows.imageImportsSpec.post enc Tryz.prog Tryz.f4 false true false false) := by
  refine returnsInHanded_of_change_and (C := Tryz.checked) (X := fun w _ => laidMetH Tryz.prog laidL w) (fun _ _ _ hh h => h.of_heap hh) own started (by kernel_rfl) Tryz.func4
    (ChangeSpec.witness_shaped (enc := enc) (C := Tryz.checked) (os := os) (X := fun w _ => laidMetH Tryz.prog laidL w) false (World.doorLaid Tryz.prog 400 os) #[.slice none 0 0, .agg #[.int .u64 0, .int .u64 0]] 8 rfl (World.shaped_of_RefB (by kernel_rfl) (by kernel_rfl)) (by kernel_rfl) (by kernel_rfl) (by kernel_rfl) (door_met os _)) ?_
  intro W base args ds gs before hval0 hW hcnd hsz0 hlaid _
  have hgl : Gl W := gl_of_laid hlaid
  have hsz : (DataW.weightsEach Tryz.prog (Tryz.f4.params.toList ++ Rows.imageImportsSpec.plain.varTypes Tryz.prog) (ds ++ gs)).all (· ≤ reachBytes) = true := hsz0
  have hval : ∀ (j : Nat) t v, Tryz.f4.params[j]? = some t → args[j]? = some v → Value.okWide Tryz.prog W .any base t v := hval0
  have hW' := hW
  obtain ⟨p, q, hA0, hV, rfl, hfz, hnd⟩ := hW
  have hA : DataW.TrodAll enc Tryz.prog W 0 (fun _ => true) true Tryz.f4.params.toList args.toList ds p := hA0
  rw [Tryz.params4] at hA hval hsz
  obtain ⟨v0, vs0, d0, ds0, p0, q0, hargs, rfl, rfl, h0, r0⟩ := trodAll_cons hA
  obtain ⟨v1, vs1, d1, ds1, p1, q1, rfl, rfl, rfl, h1, r1⟩ := trodAll_cons r0
  obtain ⟨rfl, rfl, rfl⟩ := trodAll_nil r1
  obtain rfl : args = #[v0, v1] := by cases args; simp_all
  obtain ⟨rfl, rfl⟩ := trodVars_none hV
  have k0 := h0
  have lt0 : ∀ x ∈ p0, x.block < W.heap.size := by obtain ⟨m, hm⟩ := k0; exact DataW.trod_lt m _ _ _ hm
  have wt0 : (d0.weights Tryz.prog 48).all (· ≤ reachBytes) = true := List.all_eq_true.2 fun n hn => List.all_eq_true.1 hsz n (DataW.weights_mem_each (j := 0) (t := 48) rfl rfl n hn)
  obtain ⟨a0, len0, cap0, rfl⟩ := okWide_slice Tryz.underlying48 (hval 0 48 v0 rfl rfl)
  obtain ⟨x0, rel0, fit0, bulk0⟩ : ∃ x, rdBytes.rel W x _ ∧ rdBytes.fits x ∧ rdBytes.bulk x ≤ Rows.uptoBulk d0 := by
    obtain ⟨m, hm⟩ := k0
    obtain ⟨x, x1, x2, x3⟩ := rdBytes.opn hm
    exact ⟨x, x1, x2 wt0, x3⟩
  have k1 := h1
  have lt1 : ∀ x ∈ p1, x.block < W.heap.size := by obtain ⟨m, hm⟩ := k1; exact DataW.trod_lt m _ _ _ hm
  have wt1 : (d1.weights Tryz.prog 24).all (· ≤ reachBytes) = true := List.all_eq_true.2 fun n hn => List.all_eq_true.1 hsz n (DataW.weights_mem_each (j := 1) (t := 24) rfl rfl n hn)
  obtain ⟨cs1, rfl, _⟩ := okWide_struct Tryz.underlying24 (hval 1 24 v1 rfl rfl)
  obtain ⟨x1, rel1, fit1, bulk1⟩ : ∃ x, rdKey.rel W x _ ∧ rdKey.fits x ∧ rdKey.bulk x ≤ Rows.uptoBulk d1 := by
    obtain ⟨m, hm⟩ := k1
    obtain ⟨x, x1, x2, x3⟩ := rdKey.opn hm
    exact ⟨x, x1, x2 wt1, x3⟩
  clear hA0 hval0 hsz0 hsz
  refine (imageImports_walk W x0 rel0 fit0 bulk0 x1 rel1 fit1 bulk1 hgl).mono fun e W' ⟨he, hkp⟩ => ?_
  have bel := hkp.below
  subst he
  exact ⟨_, rfl, _, _, _, [], _, [], hW', trodAll_mk1 (shut_bool Tryz.underlying4 _), (trodAll_cons_mk (Below.trod laidOut (by kernel_rfl) (of_decide_eq_true (by kernel_rfl)) k0 bel lt0) (trodAll_cons_mk (Below.trod laidOut (by kernel_rfl) (of_decide_eq_true (by kernel_rfl)) k1 bel lt1) trodAll_mk0)), rfl, bel.frame _, fun h => by cases h⟩
theorem over : Rows.imageImportsRow.holds Tryz.pinned (OpenSpec.ofChange Rows.imageImportsSpec) :=
  OpenClaim.holds_of_wide 4 Tryz.f4 rfl rfl rfl rfl rfl rfl rfl ⟨rfl, rfl, rfl, rfl, rfl⟩ rfl rfl rfl rfl rfl (by kernel_rfl) Tryz.func4 (by kernel_rfl)
    (of_decide_eq_true (by kernel_rfl)) (by unfold Func.isWrapper; first | (rw [if_pos (by decide +kernel)]; kernel_rfl) | (rw [if_neg (by decide +kernel)]; exact ⟨rfl, rfl⟩))
    (fun os started H enc _ => lifted os started H enc)
end RowImageImports
/-- The row. -/
theorem imageImports_holds : Rows.ImageImportsSaid := RowImageImports.over
/-- THE TIED CARD. -/
theorem imageImports_card_holds : Rows.ImageImportsCardSaid :=
  Claim7.holds_tied_plain_at .later [] [.data] true (true, "94a0892c2c80ee5f8e9dc797a0859e28407ef459b3783ac8e303b9f8c19b2015") false imageImports_holds (fun _ h => by cases h) (by kernel_rfl) (fun _ h => by cases h) imageImports_row_tie rfl ⟨rfl, rfl⟩ (by kernel_rfl) rfl
    (fun f fn hf hfn => by
      obtain rfl : f = 4 := Option.some.inj ((show Tryz.prog.funcNamed "corbel/corbellaw07.ImageImports" = some 4 by kernel_rfl).symm.trans hf) |>.symm
      obtain rfl : fn = Tryz.f4 := (Option.some.inj (Tryz.func4.symm.trans hfn)).symm
      exact ⟨by kernel_rfl, fun j t ht => by
        rw [Tryz.params4] at ht
        have hm : t ∈ ([48, 24] : List TypeId) := by simpa using Array.mem_of_getElem? ht
        have hall : (([48, 24] : List TypeId).all fun u => !Tryz.prog.wantsStandIn u) = true := by kernel_rfl
        exact (show Tryz.prog.wantsStandIn t = false by simpa using List.all_eq_true.1 hall t hm)⟩)
    (by kernel_rfl)
#print axioms imageImports_card_holds
#print axioms imageImports_holds
end Go.Proofs.YtodledidabdkaaaGreatDoor
