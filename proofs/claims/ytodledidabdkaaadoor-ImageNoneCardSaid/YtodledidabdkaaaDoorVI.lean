/- SipHash walked. No condition but that the numbers are of their kinds. -/
import Derived.Test.YtodledidabdkaaaDoorVH
import Derived.Test.YtodledidabdkaaaDoorVS
namespace Go.Proofs.YtodledidabdkaaaDoor
open Go.RowKit V
set_option linter.unusedVariables false
set_option linter.unusedSimpArgs false
theorem rl_bits (x r : Nat) (hx : x < 18446744073709551616) (a b : Int) (ha : a = ((x * 2 ^ r % 18446744073709551616 : Nat) : Int)) (hb : b = ((x / 2 ^ (64 - r) : Nat) : Int)) : bits .or .u64 a b = ((rl x r : Nat) : Int) := by
  rw [ha, hb, u64_or_nat _ _ (Nat.mod_lt _ (by decide)) (Nat.lt_of_le_of_lt (Nat.div_le_self _ _) hx)]
  rfl
set_option maxRecDepth 100000 in
theorem rotl_any (x r : Nat) (hx : x < 18446744073709551616) (hr : r = 13 ∨ r = 16 ∨ r = 17 ∨ r = 21 ∨ r = 32) (w : World) :
    Calls Tryd.prog 99 #[.int .u64 x, .int .i64 r] w fun e w' => e = .returned (.int .u64 (rl x r)) ∧ w' = w := by
  have HB := hid (fun a b => rl_bits x r hx a b)
  have k1 : bits BinOp.and IntKind.u64 13 63 = 13 := by decide +kernel
  have k2 : bits BinOp.and IntKind.u64 16 63 = 16 := by decide +kernel
  have k3 : bits BinOp.and IntKind.u64 17 63 = 17 := by decide +kernel
  have k4 : bits BinOp.and IntKind.u64 21 63 = 21 := by decide +kernel
  have k5 : bits BinOp.and IntKind.u64 32 63 = 32 := by decide +kernel
  obtain rfl | rfl | rfl | rfl | rfl := hr
  all_goals
    go_enter Tryd.func99, Tryd.ntmps99
    go_wp2
    go_ret
    refine ⟨congrArg (fun z => Ending.returned (.int .u64 z)) (HB.out _ _ ?_ ?_), rfl⟩
    · first | rfl | (rw [show ∀ n : Int, IntKind.u64.wrap n = n % 18446744073709551616 from fun _ => rfl]; simp only [Nat.reducePow, Nat.reduceSub]; omega)
    · first | rfl | (simp only [Nat.reducePow, Nat.reduceSub]; omega)
set_option maxRecDepth 100000 in
theorem half_any (a b r : Nat) (ha : a < 18446744073709551616) (hb : b < 18446744073709551616) (hr : r = 13 ∨ r = 16 ∨ r = 17 ∨ r = 21) (w : World) :
    Calls Tryd.prog 98 #[.int .u64 a, .int .u64 b, .int .i64 r] w fun e w' => e = .returned (.tuple #[.int .u64 (halfA a b), .int .u64 (halfB a b r)]) ∧ w' = w := by
  have HR := hid (fun w => rotl_any b r hb (by omega) w)
  have h1 := halfA_lt a b
  have h2 : IntKind.u64.wrap ((a : Int) + (b : Int)) = ((halfA a b : Nat) : Int) := by
    rw [show ((a : Int) + (b : Int)) = ((a + b : Nat) : Int) from by omega, wrapn]; rfl
  have h3 : bits .xor .u64 ((rl b r : Nat) : Int) ((halfA a b : Nat) : Int) = ((halfB a b r : Nat) : Int) := u64_xor_nat _ _ (rl_lt hb) h1
  have hq := rl_lt (r := r) hb
  obtain ⟨x, hx⟩ : ∃ x, halfA a b = x := ⟨_, rfl⟩
  obtain ⟨y, hy⟩ : ∃ y, rl b r = y := ⟨_, rfl⟩
  rw [hx] at h1 h2 h3 ⊢
  rw [hy] at h3 HR hq
  clear hx hy hr
  have HX := hid h3
  clear h3
  go_enter Tryd.func98, Tryd.ntmps98
  go_wp2_with fail
  refine (HR.out _).mono ?_
  rintro e w' ⟨rfl, rfl⟩
  go_wp2_with fail
  refine bodyPost_ret (v := .tuple #[.int .u64 x, .int .u64 (bits .xor .u64 (y : Int) (x : Int))]) (by simp [results, Tryd.results98, go_sem]) rfl ⟨?_, rfl⟩
  exact congrArg (fun z => Ending.returned (.tuple #[.int .u64 x, .int .u64 z])) HX.out
theorem split_any (h : Nat) (hh : h < 18446744073709551616) (w : World) :
    Calls Tryd.prog 54 #[.int .u64 h] w fun e w' => e = .returned (.tuple #[.int .u64 ((h / 128 : Nat) : Int), .int .u8 ((h % 128 : Nat) : Int)]) ∧ w' = w := by
  have h1 : bits .and .u64 (h : Int) 127 = ((h % 128 : Nat) : Int) := by
    rw [show (127 : Int) = ((127 : Nat) : Int) from rfl, u64_and_nat _ _ hh (by decide), show (127 : Nat) = 2 ^ 7 - 1 from rfl, Nat.and_two_pow_sub_one_eq_mod]
  obtain ⟨x, hx⟩ : ∃ x, h % 128 = x := ⟨_, rfl⟩
  have h2 : x < 128 := by omega
  rw [hx] at h1 ⊢
  have HX := hid hx
  clear hx
  go_enter Tryd.func54, Tryd.ntmps54
  go_wp2_with fail
  exact bodyPost_ret (v := .tuple #[.int .u64 ((h / 128 : Nat) : Int), .int .u8 (x : Int)]) (by simp [results, Tryd.results54, go_sem]) rfl ⟨rfl, rfl⟩
def vc (v : V4) : Array Value := #[.int .u64 v.a, .int .u64 v.b, .int .u64 v.c, .int .u64 v.d]
set_option maxRecDepth 100000 in
set_option maxHeartbeats 1000000 in
theorem round_any (v : V4) (hv : v.ok) (w : World) :
    Calls Tryd.prog 81 #[.agg (vc v)] w fun e w' => e = .returned (.agg (vc (roundP v))) ∧ Kp All w w' := by
  obtain ⟨a, b, c, d⟩ := v
  obtain ⟨ha, hb, hc, hd⟩ := hv
  simp only at ha hb hc hd
  have b1 := halfB_lt (a := a) (r := 13) hb
  have a1 := halfA_lt a b
  have a2 := rl_lt (r := 32) a1
  have c1 := halfA_lt c d
  have d1 := halfB_lt (a := c) (r := 16) hd
  have a3 := halfA_lt (rl (halfA a b) 32) (halfB c d 16)
  have d2 := halfB_lt (a := rl (halfA a b) 32) (r := 21) d1
  have c2 := halfA_lt (halfA c d) (halfB a b 13)
  have b2 := halfB_lt (a := halfA c d) (r := 17) b1
  have c3 := rl_lt (r := 32) c2
  have HR : roundP ⟨a, b, c, d⟩ = ⟨halfA (rl (halfA a b) 32) (halfB c d 16), halfB (halfA c d) (halfB a b 13) 17, rl (halfA (halfA c d) (halfB a b 13)) 32, halfB (rl (halfA a b) 32) (halfB c d 16) 21⟩ := rfl
  rw [HR]
  have r1 := hid (fun w => half_any a b 13 ha hb (by simp) w)
  have r2 := hid (fun w => rotl_any (halfA a b) 32 a1 (by simp) w)
  have r3 := hid (fun w => half_any c d 16 hc hd (by simp) w)
  have r4 := hid (fun w => half_any (rl (halfA a b) 32) (halfB c d 16) 21 a2 d1 (by simp) w)
  have r5 := hid (fun w => half_any (halfA c d) (halfB a b 13) 17 c1 b1 (by simp) w)
  have r6 := hid (fun w => rotl_any (halfA (halfA c d) (halfB a b 13)) 32 c2 (by simp) w)
  clear HR
  generalize halfA (rl (halfA a b) 32) (halfB c d 16) = A3 at *
  generalize halfB (rl (halfA a b) 32) (halfB c d 16) 21 = D2 at *
  generalize halfB (halfA c d) (halfB a b 13) 17 = B2 at *
  generalize rl (halfA (halfA c d) (halfB a b 13)) 32 = C3 at *
  generalize halfA (halfA c d) (halfB a b 13) = C2 at *
  generalize halfB c d 16 = D1 at *
  generalize halfA c d = C1 at *
  generalize rl (halfA a b) 32 = A2 at *
  generalize halfB a b 13 = B1 at *
  generalize halfA a b = A1 at *
  unfold vc
  simp only
  go_enter Tryd.func81, Tryd.ntmps81
  go_wp2_with fail
  refine (r1.out _).mono ?_
  rintro e w1 ⟨rfl, rfl⟩
  go_wp2_with fail
  refine (r2.out _).mono ?_
  rintro e w2 ⟨rfl, rfl⟩
  go_wp2_with fail
  refine (r3.out _).mono ?_
  rintro e w3 ⟨rfl, rfl⟩
  go_wp2_with fail
  refine (r4.out _).mono ?_
  rintro e w4 ⟨rfl, rfl⟩
  go_wp2_with fail
  refine (r5.out _).mono ?_
  rintro e w5 ⟨rfl, rfl⟩
  go_wp2_with fail
  refine (r6.out _).mono ?_
  rintro e w6 ⟨rfl, rfl⟩
  go_wp2_with fail
  refine bodyPost_ret (v := .agg #[.int .u64 (A3 : Nat), .int .u64 (B2 : Nat), .int .u64 (C3 : Nat), .int .u64 (D2 : Nat)]) ?_ rfl ⟨rfl, (Kp.al _ _).trans (Kp.al _ _)⟩
  simp [results, Tryd.results81, go_sem]
end Go.Proofs.YtodledidabdkaaaDoor
