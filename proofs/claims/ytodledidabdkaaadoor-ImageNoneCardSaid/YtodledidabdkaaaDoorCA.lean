/- The codec's numbers in bytes: plain words, with no program in sight. No condition. -/
import Derived.Test.YtodledidabdkaaaDoorBY
import Derived.Lib.BitFns
import Derived.Lib.ItoaNum
namespace Go.Proofs.YtodledidabdkaaaDoor
open Go.RowKit
set_option linter.unusedVariables false
set_option linter.unusedSimpArgs false
/-- how many bytes a number has behind its first one -/
def beh (u : Nat) : Nat := if u < 128 then 0 else if u < 16384 then 1 else if u < 2097152 then 2 else if u < 268435456 then 3 else if u < 34359738368 then 4 else if u < 4398046511104 then 5 else if u < 562949953421312 then 6 else if u < 72057594037927936 then 7 else 8
def tailb (u : Nat) : Nat → By
  | 0 => []
  | k + 1 => UInt8.ofNat (u / 256 ^ k) :: tailb u k
def first (u : Nat) : Nat := 256 - 2 ^ (8 - beh u) + u / 256 ^ beh u
def enc (u : Nat) : By := UInt8.ofNat (first u) :: tailb u (beh u)
theorem beh_le (u : Nat) : beh u ≤ 8 := by
  unfold beh
  repeat (split; omega)
  omega
theorem beh_lt (u : Nat) (h : beh u < 8) : u < 2 ^ (7 * (beh u + 1)) := by
  unfold beh at h ⊢
  by_cases h1 : u < 128
  · simp only [h1, if_true]
  by_cases h2 : u < 16384
  · simp only [h1, h2, if_true, if_false]
  by_cases h3 : u < 2097152
  · simp only [h1, h2, h3, if_true, if_false]
  by_cases h4 : u < 268435456
  · simp only [h1, h2, h3, h4, if_true, if_false]
  by_cases h5 : u < 34359738368
  · simp only [h1, h2, h3, h4, h5, if_true, if_false]
  by_cases h6 : u < 4398046511104
  · simp only [h1, h2, h3, h4, h5, h6, if_true, if_false]
  by_cases h7 : u < 562949953421312
  · simp only [h1, h2, h3, h4, h5, h6, h7, if_true, if_false]
  by_cases h8 : u < 72057594037927936
  · simp only [h1, h2, h3, h4, h5, h6, h7, h8, if_true, if_false]
  simp only [h1, h2, h3, h4, h5, h6, h7, h8, if_false] at h
  omega
theorem beh_of (u k : Nat) (hk : k ≤ 8) (h1 : k = 0 ∨ 2 ^ (7 * k) ≤ u) (h2 : k = 8 ∨ u < 2 ^ (7 * (k + 1))) : beh u = k := by
  unfold beh
  obtain rfl | rfl | rfl | rfl | rfl | rfl | rfl | rfl | rfl : k = 0 ∨ k = 1 ∨ k = 2 ∨ k = 3 ∨ k = 4 ∨ k = 5 ∨ k = 6 ∨ k = 7 ∨ k = 8 := by omega
  · rw [if_pos (by omega)]
  · rw [if_neg (by omega), if_pos (by omega)]
  · rw [if_neg (by omega), if_neg (by omega), if_pos (by omega)]
  · rw [if_neg (by omega), if_neg (by omega), if_neg (by omega), if_pos (by omega)]
  · rw [if_neg (by omega), if_neg (by omega), if_neg (by omega), if_neg (by omega), if_pos (by omega)]
  · rw [if_neg (by omega), if_neg (by omega), if_neg (by omega), if_neg (by omega), if_neg (by omega), if_pos (by omega)]
  · rw [if_neg (by omega), if_neg (by omega), if_neg (by omega), if_neg (by omega), if_neg (by omega), if_neg (by omega), if_pos (by omega)]
  · rw [if_neg (by omega), if_neg (by omega), if_neg (by omega), if_neg (by omega), if_neg (by omega), if_neg (by omega), if_neg (by omega), if_pos (by omega)]
  · rw [if_neg (by omega), if_neg (by omega), if_neg (by omega), if_neg (by omega), if_neg (by omega), if_neg (by omega), if_neg (by omega), if_neg (by omega)]
theorem beh_bitLen (u : Nat) (hu : u < 2 ^ 64) : min (max ((Lib.bitLen u : Int) - 1) 0 / 7) 8 = (beh u : Int) := by
  by_cases h0 : u = 0
  · subst h0
    decide +kernel
  obtain ⟨h1, h2, h3⟩ := Lib.bitLenAux_bounds 64 u hu h0
  change 1 ≤ Lib.bitLen u at h1
  change 2 ^ (Lib.bitLen u - 1) ≤ u at h2
  change u < 2 ^ Lib.bitLen u at h3
  generalize Lib.bitLen u = L at *
  have e : beh u = min ((L - 1) / 7) 8 := by
    refine beh_of u _ (by omega) ?_ ?_
    · refine .inr (Nat.le_trans (Nat.pow_le_pow_right (by omega) ?_) h2)
      omega
    · by_cases h : (L - 1) / 7 < 8
      · exact .inr (Nat.lt_of_lt_of_le h3 (Nat.pow_le_pow_right (by omega) (by omega)))
      · exact .inl (by omega)
  rw [e]
  omega
theorem tailb_len (u k : Nat) : (tailb u k).length = k := by
  induction k with
  | zero => rfl
  | succ k ih => simp [tailb, ih]
theorem enc_len (u : Nat) : (enc u).length = beh u + 1 := by simp [enc, tailb_len]
theorem enc_len_le (u : Nat) : (enc u).length ≤ 9 := by rw [enc_len]; have := beh_le u; omega
/-- an int without a sign -/
def zig (n : Int) : Nat := (if 0 ≤ n then 2 * n else 2 * n + 18446744073709551617).toNat
theorem zig_lt (n : Int) (h1 : -9223372036854775808 ≤ n) (h2 : n ≤ 9223372036854775807) : zig n < 2 ^ 64 := by
  unfold zig
  split <;> omega
theorem zig_inj {m n : Int} (hm : -9223372036854775808 ≤ m) (hn : -9223372036854775808 ≤ n) (h : zig m = zig n) : m = n := by
  unfold zig at h
  repeat' split at h
  all_goals omega
theorem first_or : ∀ k : Fin 8, ∀ v : Fin 128, v.val < 2 ^ (7 - k.val) → bits .or .u8 ((256 - 2 ^ (8 - k.val) : Nat) : Int) (v.val : Int) = ((256 - 2 ^ (8 - k.val) + v.val : Nat) : Int) := by decide +kernel
theorem first_lt (u : Nat) (hu : u < 2 ^ 64) : first u < 256 := by
  unfold first
  have h8 := beh_le u
  have h := beh_lt u
  generalize beh u = k at *
  obtain rfl | rfl | rfl | rfl | rfl | rfl | rfl | rfl | rfl : k = 0 ∨ k = 1 ∨ k = 2 ∨ k = 3 ∨ k = 4 ∨ k = 5 ∨ k = 6 ∨ k = 7 ∨ k = 8 := by omega
  all_goals simp only [Nat.reduceMul, Nat.reduceAdd, Nat.reduceSub, Nat.reducePow, Nat.reduceLT, true_implies, false_implies] at *
  all_goals omega
theorem first_eq (u k : Nat) (hu : u < 2 ^ 64) (hk : beh u = k) (h : k < 8) : bits .or .u8 ((256 - 2 ^ (8 - k) : Nat) : Int) ((u : Int) / 2 ^ (8 * k) % 256) = ((first u : Nat) : Int) := by
  have h1 := beh_lt u (by omega)
  have e : (u : Int) / 2 ^ (8 * k) % 256 = ((u / 256 ^ k % 256 : Nat) : Int) := by
    rw [show (256 : Nat) ^ k = 2 ^ (8 * k) from by rw [Nat.pow_mul]]
    simp
  rw [e]
  rw [hk] at h1
  have h2 : u / 256 ^ k < 2 ^ (7 - k) := by
    rw [Nat.div_lt_iff_lt_mul (Nat.pow_pos (by omega)), show (256 : Nat) = 2 ^ 8 from rfl, ← Nat.pow_mul, ← Nat.pow_add]
    rwa [show 7 - k + 8 * k = 7 * (k + 1) from by omega]
  have h3 : 2 ^ (7 - k) ≤ 2 ^ 7 := Nat.pow_le_pow_right (by omega) (by omega)
  rw [Nat.mod_eq_of_lt (by omega)]
  have := first_or ⟨k, h⟩ ⟨u / 256 ^ k, by omega⟩ h2
  rw [this, first, hk]
theorem tail_eq (u k : Nat) : (u : Int) / 2 ^ (8 * k) % 256 = (((UInt8.ofNat (u / 256 ^ k)).toNat : Nat) : Int) := by
  rw [show (256 : Nat) ^ k = 2 ^ (8 * k) from by rw [Nat.pow_mul]]
  simp
def encZg (n : Int) : By := enc (zig n)
def encText (s : ByteArray) : By := enc s.size ++ s.data.toList
def encBool (b : Bool) : By := [if b then 84 else 70]
theorem encText_len (s : ByteArray) : (encText s).length ≤ s.size + 9 := by
  have := enc_len_le s.size
  simp [encText]
  omega
end Go.Proofs.YtodledidabdkaaaDoor
