/- The document's writers of the codec: Zig, more, Put, PutText, PutBool: walked once each. No condition but that the numbers are of their kinds, and the rows not great. -/
import Derived.Test.YtkipijdbkkcioaaCC
namespace Go.Proofs.Ytkipijdbkkcioaa
open Go.RowKit
set_option linter.unusedVariables false
set_option linter.unusedSimpArgs false
theorem beh_ge (u : Nat) (h : beh u ≠ 0) : 2 ^ (7 * beh u) ≤ u := by
  unfold beh at h ⊢
  by_cases h1 : u < 128
  · simp [h1] at h
  by_cases h2 : u < 16384
  · simp only [h1, h2, if_true, if_false]; omega
  by_cases h3 : u < 2097152
  · simp only [h1, h2, h3, if_true, if_false]; omega
  by_cases h4 : u < 268435456
  · simp only [h1, h2, h3, h4, if_true, if_false]; omega
  by_cases h5 : u < 34359738368
  · simp only [h1, h2, h3, h4, h5, if_true, if_false]; omega
  by_cases h6 : u < 4398046511104
  · simp only [h1, h2, h3, h4, h5, h6, if_true, if_false]; omega
  by_cases h7 : u < 562949953421312
  · simp only [h1, h2, h3, h4, h5, h6, h7, if_true, if_false]; omega
  by_cases h8 : u < 72057594037927936
  · simp only [h1, h2, h3, h4, h5, h6, h7, h8, if_true, if_false]; omega
  simp only [h1, h2, h3, h4, h5, h6, h7, h8, if_false]
  omega
theorem beh_at (u k : Nat) (hk : k < 8) (h : k ≤ beh u) : (u < 2 ^ (7 * (k + 1)) → beh u = k) ∧ (¬ u < 2 ^ (7 * (k + 1)) → k + 1 ≤ beh u) := by
  refine ⟨fun h1 => ?_, fun h1 => ?_⟩
  · by_cases e : beh u = k
    · exact e
    · have h2 := beh_ge u (by omega)
      have h3 : 2 ^ (7 * (k + 1)) ≤ 2 ^ (7 * beh u) := Nat.pow_le_pow_right (by omega) (by omega)
      omega
  · by_cases e : beh u = k
    · have h2 := beh_lt u (by omega)
      rw [e] at h2
      exact absurd h2 h1
    · omega
theorem rzig_any (n : Int) (h1 : -9223372036854775808 ≤ n) (h2 : n ≤ 9223372036854775807) (w : World) :
    Calls Try.prog 38 #[.int .i64 n] w fun e w' => e = .returned (.int .u64 (zig n)) ∧ w = w' := by
  have e := zig_bits n h1 h2
  go_enter Try.func38, Try.ntmps38
  go_wp2
  go_ret
  exact ⟨rfl, rfl⟩
set_option maxRecDepth 100000 in
theorem rmore_any (u : Nat) (hu : u < 2 ^ 64) (w : World) :
    Calls Try.prog 54 #[.int .u64 u] w fun e w' => e = .returned (.int .i64 (beh u)) ∧ w = w' := by
  have HU := hid hu
  have h8 := beh_le u
  obtain ⟨q, hq⟩ : ∃ q, beh u = q := ⟨_, rfl⟩
  have HQ := hid hq
  rw [hq] at h8
  clear hu hq
  go_enter Try.func54, Try.ntmps54
  go_wp2_with fail
  go_loopw [3] (fun i wr => ∃ k : Nat, k ≤ q ∧ i = .int .i64 k ∧ w = wr) (fun i _ => 9 - (intOf i).toNat)
  case atStart => exact ⟨0, Nat.zero_le _, rfl, rfl⟩
  case round =>
    obtain ⟨k, hk, rfl, rfl⟩ := hrel
    by_cases hlt : k < 8
    · have hat := beh_at u k hlt (by rw [HQ.out]; exact hk)
      rw [HQ.out] at hat
      have HAT := hid hat
      clear hat
      obtain rfl | rfl | rfl | rfl | rfl | rfl | rfl | rfl : k = 0 ∨ k = 1 ∨ k = 2 ∨ k = 3 ∨ k = 4 ∨ k = 5 ∨ k = 6 ∨ k = 7 := by omega
      · by_cases hc : u < 128
        · have d : decide ((u : Int) < 128) = true := decide_eq_true (by omega)
          have hq := HAT.out.1 hc
          go_wp2_with fail
          go_ret
          rw [HQ.out, hq]
          exact ⟨rfl, rfl⟩
        · have d : decide ((u : Int) < 128) = false := decide_eq_false (by omega)
          have hq := HAT.out.2 hc
          go_wp2_with fail
          exact ⟨⟨1, hq, rfl, by first | rfl | trivial⟩, by simp [intOf]⟩
      · by_cases hc : u < 16384
        · have d : decide ((u : Int) < 16384) = true := decide_eq_true (by omega)
          have hq := HAT.out.1 hc
          go_wp2_with fail
          go_ret
          rw [HQ.out, hq]
          exact ⟨rfl, rfl⟩
        · have d : decide ((u : Int) < 16384) = false := decide_eq_false (by omega)
          have hq := HAT.out.2 hc
          go_wp2_with fail
          exact ⟨⟨2, hq, rfl, by first | rfl | trivial⟩, by simp [intOf]⟩
      · by_cases hc : u < 2097152
        · have d : decide ((u : Int) < 2097152) = true := decide_eq_true (by omega)
          have hq := HAT.out.1 hc
          go_wp2_with fail
          go_ret
          rw [HQ.out, hq]
          exact ⟨rfl, rfl⟩
        · have d : decide ((u : Int) < 2097152) = false := decide_eq_false (by omega)
          have hq := HAT.out.2 hc
          go_wp2_with fail
          exact ⟨⟨3, hq, rfl, by first | rfl | trivial⟩, by simp [intOf]⟩
      · by_cases hc : u < 268435456
        · have d : decide ((u : Int) < 268435456) = true := decide_eq_true (by omega)
          have hq := HAT.out.1 hc
          go_wp2_with fail
          go_ret
          rw [HQ.out, hq]
          exact ⟨rfl, rfl⟩
        · have d : decide ((u : Int) < 268435456) = false := decide_eq_false (by omega)
          have hq := HAT.out.2 hc
          go_wp2_with fail
          exact ⟨⟨4, hq, rfl, by first | rfl | trivial⟩, by simp [intOf]⟩
      · by_cases hc : u < 34359738368
        · have d : decide ((u : Int) < 34359738368) = true := decide_eq_true (by omega)
          have hq := HAT.out.1 hc
          go_wp2_with fail
          go_ret
          rw [HQ.out, hq]
          exact ⟨rfl, rfl⟩
        · have d : decide ((u : Int) < 34359738368) = false := decide_eq_false (by omega)
          have hq := HAT.out.2 hc
          go_wp2_with fail
          exact ⟨⟨5, hq, rfl, by first | rfl | trivial⟩, by simp [intOf]⟩
      · by_cases hc : u < 4398046511104
        · have d : decide ((u : Int) < 4398046511104) = true := decide_eq_true (by omega)
          have hq := HAT.out.1 hc
          go_wp2_with fail
          go_ret
          rw [HQ.out, hq]
          exact ⟨rfl, rfl⟩
        · have d : decide ((u : Int) < 4398046511104) = false := decide_eq_false (by omega)
          have hq := HAT.out.2 hc
          go_wp2_with fail
          exact ⟨⟨6, hq, rfl, by first | rfl | trivial⟩, by simp [intOf]⟩
      · by_cases hc : u < 562949953421312
        · have d : decide ((u : Int) < 562949953421312) = true := decide_eq_true (by omega)
          have hq := HAT.out.1 hc
          go_wp2_with fail
          go_ret
          rw [HQ.out, hq]
          exact ⟨rfl, rfl⟩
        · have d : decide ((u : Int) < 562949953421312) = false := decide_eq_false (by omega)
          have hq := HAT.out.2 hc
          go_wp2_with fail
          exact ⟨⟨7, hq, rfl, by first | rfl | trivial⟩, by simp [intOf]⟩
      · by_cases hc : u < 72057594037927936
        · have d : decide ((u : Int) < 72057594037927936) = true := decide_eq_true (by omega)
          have hq := HAT.out.1 hc
          go_wp2_with fail
          go_ret
          rw [HQ.out, hq]
          exact ⟨rfl, rfl⟩
        · have d : decide ((u : Int) < 72057594037927936) = false := decide_eq_false (by omega)
          have hq := HAT.out.2 hc
          go_wp2_with fail
          exact ⟨⟨8, hq, rfl, by first | rfl | trivial⟩, by simp [intOf]⟩
    · have hq8 : k = 8 := by omega
      subst hq8
      go_wp2_with fail
      go_ret
      have : q = 8 := by omega
      rw [HQ.out, this]
      exact ⟨rfl, rfl⟩
end Go.Proofs.Ytkipijdbkkcioaa
