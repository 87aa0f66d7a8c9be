/- The document's Same of bytes and Ints, at equal rows: walked once each. No condition but that the rows are equal. -/
import Derived.Test.YtkipijdbkkcioaaCE
namespace Go.Proofs.Ytkipijdbkkcioaa
open Go.RowKit
set_option linter.unusedVariables false
set_option linter.unusedSimpArgs false
set_option maxRecDepth 100000 in
theorem same01_eq (v1 v2 : Value) (xs : By) (w : World) (h1 : Rb v1 xs w) (h2 : Rb v2 xs w) :
    Calls Try.prog 22 #[v1, v2] w fun e w' => e = .returned (.bool true) ∧ w = w' := by
  have e1 := run_conv_row h1
  have e2 := run_conv_row h2
  clear h1 h2
  go_enter Try.func22, Try.ntmps22
  go_wp2
  go_ret
  exact ⟨by simp, rfl⟩
set_option maxRecDepth 100000 in
theorem ints_eq (A A' : Option Addr) (c c' : Nat) (zs : List Int) (w : World) (h : Foot All (Sl A zs.length c 1 (zs.map (Value.int .i64))) w) (h' : Foot All (Sl A' zs.length c' 1 (zs.map (Value.int .i64))) w) (hn : zs.length ≤ 1000000) :
    Calls Try.prog 21 #[.slice A zs.length c, .slice A' zs.length c'] w fun e w' => e = .returned (.bool true) ∧ Kp All w w' := by
  have H := hid h
  have H' := hid h'
  clear h h'
  obtain ⟨n, hl⟩ : ∃ n, zs.length = n := ⟨_, rfl⟩
  have HL := hid hl
  rw [hl] at hn ⊢
  clear hl
  go_enter Try.func21, Try.ntmps21
  go_wp2
  go_loopw [13] (fun i wr => ∃ k : Nat, k ≤ n ∧ i = .int .i64 k ∧ Hid (Kp All w wr)) (fun i _ => n - (intOf i).toNat)
  case atStart => exact ⟨0, Nat.zero_le _, rfl, Kp.refl _ _⟩
  case round =>
    obtain ⟨k, hk, rfl, hkp⟩ := hrel
    by_cases hlt : k < n
    · have hb0 : decide ((k : Int) < (n : Int)) = true := decide_eq_true (by omega)
      obtain ⟨b, o, eA, hr⟩ := (H.out.step hkp.out).now.2.2 (by rw [HL.out]; omega)
      obtain ⟨b', o', eA', hr'⟩ := (H'.out.step hkp.out).now.2.2 (by rw [HL.out]; omega)
      obtain ⟨z, hz⟩ : ∃ z, zs[k]? = some z := ⟨_, List.getElem?_eq_getElem (by rw [HL.out]; exact hlt)⟩
      have p1 : wr.cell? ⟨b, o + k, none⟩ = some (.int .i64 z) := hr k _ (by rw [List.getElem?_map, hz]; rfl)
      have p2 : wr.cell? ⟨b', o' + k, none⟩ = some (.int .i64 z) := hr' k _ (by rw [List.getElem?_map, hz]; rfl)
      subst eA eA'
      have i0 : (0 : Int) ≤ (k : Int) := by omega
      have i1 : (k : Int) < (n : Int) := by omega
      clear hr hr' hz
      go_wp2_with fail
      go_quiet (fail)
      go_wp2_with fail
      exact ⟨⟨k + 1, by omega, by go_num, hkp.out.drewN _⟩, by simp [intOf]; omega⟩
    · have hb0 : decide ((k : Int) < (n : Int)) = false := decide_eq_false (by omega)
      go_wp2_with fail
      go_ret
      exact ⟨rfl, hkp.out⟩
end Go.Proofs.Ytkipijdbkkcioaa
