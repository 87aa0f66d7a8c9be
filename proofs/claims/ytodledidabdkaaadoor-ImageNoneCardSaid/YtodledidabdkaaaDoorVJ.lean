/- SipHash's closure and word walked. No condition but that the numbers are of their kinds. -/
import Derived.Test.YtodledidabdkaaaDoorVI
namespace Go.Proofs.YtodledidabdkaaaDoor
open Go.RowKit V
set_option linter.unusedVariables false
set_option linter.unusedSimpArgs false
set_option maxRecDepth 100000 in
set_option maxHeartbeats 1000000 in
theorem take_any (v : V4) (hv : v.ok) (m : Nat) (hm : m < 18446744073709551616) (B : Nat) (w : World) (hB : w.heap[B]? = some (.cells (vc v) 127 (0, 0))) :
    Calls Tryd.prog 80 #[.int .u64 m, .int .i64 0, .int .i64 3, .pointer (some ⟨B, 0, none⟩)] w fun e w' => e = .returned (.tuple #[]) ∧ w'.heap[B]? = some (.cells (vc (takeP v m)) 127 (0, 0)) ∧ Kp (fun b => b ≠ B) w w' := by
  have h1 : V4.ok { v with d := v.d ^^^ m } := ⟨hv.1, hv.2.1, hv.2.2.1, xor_lt64 hv.2.2.2 hm⟩
  have h2 := round_ok h1
  have h3 := round_ok h2
  have hx1 : bits .xor .u64 (v.d : Int) (m : Int) = ((v.d ^^^ m : Nat) : Int) := u64_xor_nat _ _ hv.2.2.2 hm
  have hx2 := u64_xor_nat (roundP (roundP { v with d := v.d ^^^ m })).a m h3.1 hm
  have hT : takeP v m = { roundP (roundP { v with d := v.d ^^^ m }) with a := (roundP (roundP { v with d := v.d ^^^ m })).a ^^^ m } := rfl
  rw [hT]
  have r1 := hid (fun w => round_any { v with d := v.d ^^^ m } h1 w)
  have r2 := hid (fun w => round_any (roundP { v with d := v.d ^^^ m }) h2 w)
  clear hT h1 h2
  obtain ⟨a, b, c, d⟩ := v
  simp only at *
  generalize d ^^^ m = D at *
  generalize roundP ⟨a, b, c, D⟩ = u1 at *
  generalize roundP u1 = u2 at *
  obtain ⟨a2, b2, c2, d2⟩ := u2
  simp only at *
  generalize a2 ^^^ m = A at *
  have hd := hv.2.2.2
  have ha2 := h3.1
  simp only at hd ha2
  unfold vc at hB
  simp only at hB
  have q0 := blk_cell hB
  have f0 := blk_free hB
  have HB := hid hB
  have HX1 := hid hx1; have HX2 := hid hx2
  clear hB hv h3 hx1 hx2
  go_enter Tryd.func80, Tryd.ntmps80
  go_wp2_with fail
  rw [HX1.out]
  refine (r1.out _).mono ?_
  rintro e w1 ⟨rfl, k1⟩
  have B1 := hid (k1.heap (blk_set HB.out 3 (.int .u64 (D : Nat))) trivial)
  have K1 : Hid (Kp (fun b => b ≠ B) w w1) := hid (((Kp.refl _ w).setOut (by simp) _).then k1 (fun _ _ _ => trivial))
  clear k1
  go_wp2_with fail
  refine (r2.out _).mono ?_
  rintro e w2 ⟨rfl, k2⟩
  have hB2 := k2.heap B1.out trivial
  have K2 := hid (K1.out.then k2 (fun _ _ _ => trivial))
  clear k2
  simp only [List.setIfInBounds_toArray, List.set_cons_succ, List.set_cons_zero] at hB2
  have B2 := hid hB2
  have q2 := blk_cell hB2
  have f2 := blk_free hB2
  clear hB2 q0 f0
  unfold vc
  simp only
  go_wp2_with fail
  rw [HX2.out]
  go_end0
  exact ⟨rfl, blk_set (blk_set (blk_set (blk_set (blk_set B2.out 0 _) 1 _) 2 _) 3 _) 0 _, ((((K2.out.setOut (by simp) _).setOut (by simp) _).setOut (by simp) _).setOut (by simp) _).setOut (by simp) _⟩
theorem word_or (u : Nat) (x : UInt8) (hu : u * 256 < 18446744073709551616) (a : Int) (ha : a = ((u * 256 : Nat) : Int)) : bits .or .u64 a (x.toNat : Int) = ((x.toNat + 256 * u : Nat) : Int) := by
  have hx := x.toNat_lt
  rw [ha, u64_or_nat _ _ hu (by omega)]
  have h := or256 0 x.toNat u 0 (by omega) hx
  rw [Nat.zero_add, Nat.mul_zero, Nat.add_zero, Nat.zero_or, Nat.or_zero] at h
  rw [Nat.mul_comm u 256, h]
set_option maxRecDepth 100000 in
theorem word_any (s : ByteArray) (hs : s.data.toList.length ≤ 8) (w : World) :
    Calls Tryd.prog 82 #[.string s] w fun e w' => e = .returned (.int .u64 (wordP s.data.toList)) ∧ w' = w := by
  have hn : s.data.toList.length = s.size := by rw [Array.length_toList]; rfl
  obtain ⟨n, hN⟩ : ∃ n, s.size = n := ⟨_, rfl⟩
  rw [hN] at hn
  rw [hn] at hs
  have HN := hid hN; have HL := hid hn
  clear hn
  go_enter Tryd.func82, Tryd.ntmps82
  go_wp2_with fail
  go_loopw [3, 4] (fun u i wr => ∃ j : Nat, j ≤ n ∧ i = .int .i64 ((j : Int) - 1) ∧ u = .int .u64 ((wordP (s.data.toList.drop j) : Nat) : Int) ∧ wr = w) (fun _ i _ => (intOf i + 1).toNat)
  case atStart => exact ⟨n, Nat.le_refl _, rfl, by rw [List.drop_eq_nil_of_le (by rw [HL.out]; exact Nat.le_refl _)]; rfl, rfl⟩
  case round =>
    obtain ⟨j, hj, rfl, rfl, rfl⟩ := hrel
    match j, hj with
    | 0, _ =>
      have d0 : decide ((0 : Int) ≤ ((0 : Nat) : Int) - 1) = false := decide_eq_false (by omega)
      go_wp2_with fail
      go_ret
      exact ⟨rfl, rfl⟩
    | j + 1, hj =>
      have d0 : decide ((0 : Int) ≤ ((j + 1 : Nat) : Int) - 1) = true := decide_eq_true (by omega)
      have em : (((j + 1 : Nat) : Int) - 1) = (j : Int) := by omega
      rw [em] at d0
      rw [em]
      have hjl : j < s.data.toList.length := by rw [HL.out]; omega
      have hdr : s.data.toList.drop j = s.data.toList[j] :: s.data.toList.drop (j + 1) := List.drop_eq_getElem_cons hjl
      have hwd : wordP (s.data.toList.drop j) = (s.data.toList[j]).toNat + 256 * wordP (s.data.toList.drop (j + 1)) := by rw [hdr]; rfl
      have hul : wordP (s.data.toList.drop (j + 1)) * 256 < 18446744073709551616 := by
        have h1 := wd_lt (natsB (s.data.toList.drop (j + 1))) (bt_natsB _)
        have h2 : 256 ^ (natsB (s.data.toList.drop (j + 1))).length ≤ 256 ^ 7 := Nat.pow_le_pow_right (by omega) (by have := HL.out; simp only [natsB, List.length_map, List.length_drop]; omega)
        have h3 : wordP (s.data.toList.drop (j + 1)) < 256 ^ 7 := Nat.lt_of_lt_of_le h1 h2
        simp only [Nat.reducePow] at h3
        omega
      have HW := hid hwd
      have HU := hid hul
      have hjs : j < s.size := by omega
      have hge : s.data.toList[j] = s[j] := by rw [Array.getElem_toList]; rfl
      have HG := hid hge
      clear hwd hul hdr hge
      go_wp2_with fail
      refine ⟨⟨j, by omega, rfl, ?_, trivial⟩, by simp [intOf]⟩
      refine congrArg (Value.int .u64) ?_
      rw [HW.out, HG.out]
      have hx := (s[j]).toNat_lt
      have e1 : IntKind.u64.wrap ((s[j]).toNat : Int) = ((s[j]).toNat : Int) := by rw [wrapn, Nat.mod_eq_of_lt (by omega)]
      rw [e1]
      refine word_or _ _ HU.out _ ?_
      rw [show ((wordP (s.data.toList.drop (j + 1)) : Int) * 256) = ((wordP (s.data.toList.drop (j + 1)) * 256 : Nat) : Int) from by omega, wrapn, Nat.mod_eq_of_lt HU.out]
end Go.Proofs.YtodledidabdkaaaDoor
