/- The codec's numbers in bytes: plain words, with no program in sight. No condition. The codec's writers: behind, ones, put, Put, text, PutText, PutBool: walked once each. No condition but that the numbers are of their kinds, and the rows not great. The codec's writers over rows: Put, text, PutText, PutBool: walked once each. No condition but that the numbers are of their kinds, and the rows not great. Rows of bytes as texts. No condition. The codec's Get, walked once, and what it makes of a number's bytes. No condition but that the row is not great. The codec's Zag, GetText and GetBool: walked once each. No condition but that the row is not great. The codec's Reader: read of a number, of a text, of a byte; Num, Int, Text, Bool, Count, End: walked once each. No condition but that the bytes lie in a row that is not great. The codec's Reader: Num, Int, Text, Bool, Count, End: walked once each. No condition but that the bytes lie in a row that is not great. The Reader's contracts over a state, and the way back of numbers and texts. No condition. A map's pairs in bytes: plain words; a row of two cells each that is one's own. No condition. A map's bytes read: plain words. No condition. A map's bytes tell its pairs. No condition but that the texts are not too long. -/
import Derived.Test.YtodledidabdkaaaGreatDoorM1
import Derived.Lib.BitFns
import Derived.Lib.ItoaNum
import Derived.Test.YtodledidabdkaaaGreatDoorIB
import Derived.Laws.BitsAllLaws
import Derived.Laws.IdiomStrings
import Derived.Lib.BufferRead
import Derived.Test.YtodledidabdkaaaGreatDoorM2
set_option linter.unusedVariables false
set_option linter.unusedSimpArgs false
namespace Go.Proofs.YtodledidabdkaaaGreatDoor
open Go.RowKit
set_option linter.unusedVariables false
set_option linter.unusedSimpArgs false
/-- how many bytes a number has behind its first one -/
def beh (u : Nat) : Nat := if u < 128 then 0 else if u < 16384 then 1 else if u < 2097152 then 2 else if u < 268435456 then 3 else if u < 34359738368 then 4 else if u < 4398046511104 then 5 else if u < 562949953421312 then 6 else if u < 72057594037927936 then 7 else 8
def tailb (u : Nat) : Nat → By
  | 0 => []
  | k + 1 => UInt8.ofNat (u / 256 ^ k) :: tailb u k
def first (u : Nat) : Nat := 256 - 2 ^ (8 - beh u) + u / 256 ^ beh u
def enc (u : Nat) : By := UInt8.ofNat (first u) :: tailb u (beh u)
theorem beh_le (u : Nat) : beh u ≤ 8 := by
  unfold beh
  repeat (split; omega)
  omega
theorem beh_lt (u : Nat) (h : beh u < 8) : u < 2 ^ (7 * (beh u + 1)) := by
  unfold beh at h ⊢
  by_cases h1 : u < 128
  · simp only [h1, if_true]
  by_cases h2 : u < 16384
  · simp only [h1, h2, if_true, if_false]
  by_cases h3 : u < 2097152
  · simp only [h1, h2, h3, if_true, if_false]
  by_cases h4 : u < 268435456
  · simp only [h1, h2, h3, h4, if_true, if_false]
  by_cases h5 : u < 34359738368
  · simp only [h1, h2, h3, h4, h5, if_true, if_false]
  by_cases h6 : u < 4398046511104
  · simp only [h1, h2, h3, h4, h5, h6, if_true, if_false]
  by_cases h7 : u < 562949953421312
  · simp only [h1, h2, h3, h4, h5, h6, h7, if_true, if_false]
  by_cases h8 : u < 72057594037927936
  · simp only [h1, h2, h3, h4, h5, h6, h7, h8, if_true, if_false]
  simp only [h1, h2, h3, h4, h5, h6, h7, h8, if_false] at h
  omega
theorem beh_of (u k : Nat) (hk : k ≤ 8) (h1 : k = 0 ∨ 2 ^ (7 * k) ≤ u) (h2 : k = 8 ∨ u < 2 ^ (7 * (k + 1))) : beh u = k := by
  unfold beh
  obtain rfl | rfl | rfl | rfl | rfl | rfl | rfl | rfl | rfl : k = 0 ∨ k = 1 ∨ k = 2 ∨ k = 3 ∨ k = 4 ∨ k = 5 ∨ k = 6 ∨ k = 7 ∨ k = 8 := by omega
  · rw [if_pos (by omega)]
  · rw [if_neg (by omega), if_pos (by omega)]
  · rw [if_neg (by omega), if_neg (by omega), if_pos (by omega)]
  · rw [if_neg (by omega), if_neg (by omega), if_neg (by omega), if_pos (by omega)]
  · rw [if_neg (by omega), if_neg (by omega), if_neg (by omega), if_neg (by omega), if_pos (by omega)]
  · rw [if_neg (by omega), if_neg (by omega), if_neg (by omega), if_neg (by omega), if_neg (by omega), if_pos (by omega)]
  · rw [if_neg (by omega), if_neg (by omega), if_neg (by omega), if_neg (by omega), if_neg (by omega), if_neg (by omega), if_pos (by omega)]
  · rw [if_neg (by omega), if_neg (by omega), if_neg (by omega), if_neg (by omega), if_neg (by omega), if_neg (by omega), if_neg (by omega), if_pos (by omega)]
  · rw [if_neg (by omega), if_neg (by omega), if_neg (by omega), if_neg (by omega), if_neg (by omega), if_neg (by omega), if_neg (by omega), if_neg (by omega)]
theorem beh_bitLen (u : Nat) (hu : u < 2 ^ 64) : min (max ((Lib.bitLen u : Int) - 1) 0 / 7) 8 = (beh u : Int) := by
  by_cases h0 : u = 0
  · subst h0
    decide +kernel
  obtain ⟨h1, h2, h3⟩ := Lib.bitLenAux_bounds 64 u hu h0
  change 1 ≤ Lib.bitLen u at h1
  change 2 ^ (Lib.bitLen u - 1) ≤ u at h2
  change u < 2 ^ Lib.bitLen u at h3
  generalize Lib.bitLen u = L at *
  have e : beh u = min ((L - 1) / 7) 8 := by
    refine beh_of u _ (by omega) ?_ ?_
    · refine .inr (Nat.le_trans (Nat.pow_le_pow_right (by omega) ?_) h2)
      omega
    · by_cases h : (L - 1) / 7 < 8
      · exact .inr (Nat.lt_of_lt_of_le h3 (Nat.pow_le_pow_right (by omega) (by omega)))
      · exact .inl (by omega)
  rw [e]
  omega
theorem tailb_len (u k : Nat) : (tailb u k).length = k := by
  induction k with
  | zero => rfl
  | succ k ih => simp [tailb, ih]
theorem enc_len (u : Nat) : (enc u).length = beh u + 1 := by simp [enc, tailb_len]
theorem enc_len_le (u : Nat) : (enc u).length ≤ 9 := by rw [enc_len]; have := beh_le u; omega
/-- an int without a sign -/
def zig (n : Int) : Nat := (if 0 ≤ n then 2 * n else 2 * n + 18446744073709551617).toNat
theorem zig_lt (n : Int) (h1 : -9223372036854775808 ≤ n) (h2 : n ≤ 9223372036854775807) : zig n < 2 ^ 64 := by
  unfold zig
  split <;> omega
theorem zig_inj {m n : Int} (hm : -9223372036854775808 ≤ m) (hn : -9223372036854775808 ≤ n) (h : zig m = zig n) : m = n := by
  unfold zig at h
  repeat' split at h
  all_goals omega
theorem first_or : ∀ k : Fin 8, ∀ v : Fin 128, v.val < 2 ^ (7 - k.val) → bits .or .u8 ((256 - 2 ^ (8 - k.val) : Nat) : Int) (v.val : Int) = ((256 - 2 ^ (8 - k.val) + v.val : Nat) : Int) := by decide +kernel
theorem first_lt (u : Nat) (hu : u < 2 ^ 64) : first u < 256 := by
  unfold first
  have h8 := beh_le u
  have h := beh_lt u
  generalize beh u = k at *
  obtain rfl | rfl | rfl | rfl | rfl | rfl | rfl | rfl | rfl : k = 0 ∨ k = 1 ∨ k = 2 ∨ k = 3 ∨ k = 4 ∨ k = 5 ∨ k = 6 ∨ k = 7 ∨ k = 8 := by omega
  all_goals simp only [Nat.reduceMul, Nat.reduceAdd, Nat.reduceSub, Nat.reducePow, Nat.reduceLT, true_implies, false_implies] at *
  all_goals omega
theorem first_eq (u k : Nat) (hu : u < 2 ^ 64) (hk : beh u = k) (h : k < 8) : bits .or .u8 ((256 - 2 ^ (8 - k) : Nat) : Int) ((u : Int) / 2 ^ (8 * k) % 256) = ((first u : Nat) : Int) := by
  have h1 := beh_lt u (by omega)
  have e : (u : Int) / 2 ^ (8 * k) % 256 = ((u / 256 ^ k % 256 : Nat) : Int) := by
    rw [show (256 : Nat) ^ k = 2 ^ (8 * k) from by rw [Nat.pow_mul]]
    simp
  rw [e]
  rw [hk] at h1
  have h2 : u / 256 ^ k < 2 ^ (7 - k) := by
    rw [Nat.div_lt_iff_lt_mul (Nat.pow_pos (by omega)), show (256 : Nat) = 2 ^ 8 from rfl, ← Nat.pow_mul, ← Nat.pow_add]
    rwa [show 7 - k + 8 * k = 7 * (k + 1) from by omega]
  have h3 : 2 ^ (7 - k) ≤ 2 ^ 7 := Nat.pow_le_pow_right (by omega) (by omega)
  rw [Nat.mod_eq_of_lt (by omega)]
  have := first_or ⟨k, h⟩ ⟨u / 256 ^ k, by omega⟩ h2
  rw [this, first, hk]
theorem tail_eq (u k : Nat) : (u : Int) / 2 ^ (8 * k) % 256 = (((UInt8.ofNat (u / 256 ^ k)).toNat : Nat) : Int) := by
  rw [show (256 : Nat) ^ k = 2 ^ (8 * k) from by rw [Nat.pow_mul]]
  simp
def encZg (n : Int) : By := enc (zig n)
def encText (s : ByteArray) : By := enc s.size ++ s.data.toList
def encBool (b : Bool) : By := [if b then 84 else 70]
theorem encText_len (s : ByteArray) : (encText s).length ≤ s.size + 9 := by
  have := enc_len_le s.size
  simp [encText]
  omega
end Go.Proofs.YtodledidabdkaaaGreatDoor

namespace Go.Proofs.YtodledidabdkaaaGreatDoor
open Go.RowKit
set_option linter.unusedVariables false
set_option linter.unusedSimpArgs false
theorem len64_any (x : Int) (w : World) (h0 : 0 ≤ x) (h1 : x ≤ 18446744073709551615) :
    Calls Tryz.prog 120 #[.int .u64 x] w fun e w' => e = .returned (.int .i64 (Lib.bitLen x.toNat)) ∧ w' = w := Any.bits_Len64 Tryz.len64 x w h0 h1
set_option maxRecDepth 100000 in
theorem behind_any (u : Nat) (hu : u < 2 ^ 64) (w : World) :
    Calls Tryz.prog 121 #[.int .u64 u] w fun e w' => e = .returned (.int .i64 (beh u)) ∧ w = w' := by
  have hb := beh_bitLen u hu
  have hl : Lib.bitLen u ≤ 64 := Lib.bitLen_le u 64 (by omega) hu
  obtain ⟨L, hL⟩ : ∃ L, Lib.bitLen u = L := ⟨_, rfl⟩
  rw [hL] at hb hl
  have HU := hid hu
  have HLL := hid hL
  have hmx := @run_max2 Tryz.prog
  have hmn := @run_min2 Tryz.prog
  clear hu hL
  go_enter Tryz.func121, Tryz.ntmps121
  go_wp2_with fail
  refine (len64_any _ _ (by omega) (by have := HU.out; omega)).mono ?_
  rintro e w1 ⟨rfl, rfl⟩
  rw [show ((u : Int)).toNat = u from rfl, HLL.out]
  go_wp2_with fail
  go_ret
  refine ⟨?_, rfl⟩
  rfl
set_option maxRecDepth 100000 in
theorem ones_any (k : Nat) (hk : k ≤ 8) (w : World) :
    Calls Tryz.prog 122 #[.int .i64 k] w fun e w' => e = .returned (.int .u8 ((256 - 2 ^ (8 - k) : Nat) : Int)) ∧ w = w' := by
  obtain rfl | rfl | rfl | rfl | rfl | rfl | rfl | rfl | rfl : k = 0 ∨ k = 1 ∨ k = 2 ∨ k = 3 ∨ k = 4 ∨ k = 5 ∨ k = 6 ∨ k = 7 ∨ k = 8 := by omega
  all_goals
    go_enter Tryz.func122, Tryz.ntmps122
    go_wp2_with fail
    go_ret
    exact ⟨rfl, rfl⟩
theorem wrap64u (n : Int) : IntKind.u64.wrap n = n % 18446744073709551616 := by rfl
theorem zig_bits (n : Int) (h1 : -9223372036854775808 ≤ n) (h2 : n ≤ 9223372036854775807) : bits BinOp.or IntKind.u64 (IntKind.u64.wrap (IntKind.u64.wrap n * 2)) (IntKind.u64.wrap n / 9223372036854775808) = (zig n : Nat) := by
  unfold zig
  by_cases h : 0 ≤ n
  · have e1 : IntKind.u64.wrap n = n := by rw [wrap64u]; omega
    have e2 : IntKind.u64.wrap (n * 2) = n * 2 := by rw [wrap64u]; omega
    have e3 : n / 9223372036854775808 = 0 := by omega
    rw [e1, e2, e3, if_pos h]
    have : bits BinOp.or IntKind.u64 (n * 2) 0 = n * 2 := by
      rw [u64_or _ _ (by omega) (by omega) (by omega) (by omega)]
      simp
      omega
    rw [this]
    omega
  · have e1 : IntKind.u64.wrap n = n + 18446744073709551616 := by rw [wrap64u]; omega
    have e2 : IntKind.u64.wrap ((n + 18446744073709551616) * 2) = 2 * n + 18446744073709551616 := by rw [wrap64u]; omega
    have e3 : (n + 18446744073709551616) / 9223372036854775808 = 1 := by omega
    rw [e1, e2, e3, if_neg h]
    have : bits BinOp.or IntKind.u64 (2 * n + 18446744073709551616) 1 = 2 * n + 18446744073709551617 := by
      rw [u64_or _ _ (by omega) (by omega) (by omega) (by omega)]
      have h1 := Nat.two_pow_add_eq_or_of_lt (b := 1) (i := 1) (by omega) (n + 9223372036854775808).toNat
      have h2 : (2 * n + 18446744073709551616).toNat = 2 ^ 1 * (n + 9223372036854775808).toNat := by omega
      rw [h2, show (1 : Int).toNat = 1 from rfl, ← h1]
      omega
    rw [this]
    omega
set_option maxRecDepth 100000 in
theorem put0_any (base : Nat) (v : Value) (xs : By) (u : Nat) (hu : u < 2 ^ 64) (hn : xs.length ≤ 140737488300000) (w : World) (h : w.ownsRow base 5 1 v xs.length (u8s xs)) (hb : base ≤ w.heap.size) :
    Calls Tryz.prog 86 #[v, .int .u64 u] w fun e w' => (∃ v', e = .returned v' ∧ w'.ownsRow base 5 1 v' (xs ++ enc u).length (u8s (xs ++ enc u))) ∧ Kp (fun b => b < base) w w' := by
  obtain ⟨A, c, rfl⟩ := own_shape h
  obtain ⟨k, hk⟩ : ∃ k, beh u = k := ⟨_, rfl⟩
  have hk8 : k ≤ 8 := hk ▸ beh_le u
  have H := hid h
  have HU := hid hu
  have HN := hid hn
  have HK := hid hk
  have HB := hid hb
  clear h hu hn hk hb
  go_enter Tryz.func86, Tryz.ntmps86
  go_wp2_with fail
  refine (behind_any u HU.out _).mono ?_
  rintro e w1 ⟨rfl, rfl⟩
  rw [HK.out]
  go_wp2_with fail
  refine (ones_any k hk8 _).mono ?_
  rintro e w1 ⟨rfl, rfl⟩
  by_cases h8 : k < 8
  · have d8 : decide ((k : Int) < 8) = true := decide_eq_true (by omega)
    have HF := hid (first_eq u k HU.out HK.out h8)
    go_wp2_with (at_builtin; rw [HF.out]; go_loud (refine wpList_app el8 (H.out.alloc _) (sl_new1 _ _ _) (u8_one1 _ _) ?_ (Nat.le_trans HB.out (by simp)) rfl _ _ rfl rfl rfl ?_); (have := HN.out; omega); intro v' w2 hown2 hg2 hob2 hnil2; obtain ⟨A2, c2', rfl⟩ := own_shape hown2; have HOW := hid hown2; have HG2 := hid hg2; clear hown2 hg2 hob2 hnil2)
    have hsz2 : w.heap.size ≤ w2.heap.size := by have := HG2.out.size; simp at this; omega
    have hk2 : Kp (fun b => b < base) w w2 := ((Kp.refl _ w).alloc _).then (Kp.grown HG2.out) (fun i hi hS e => by
      have := (H.out.lt i e.symm).1
      omega)
    have hw2 : w2.ownsRow base 5 1 (.slice A2 (xs.length + 1) c2') (xs ++ [UInt8.ofNat (first u)]).length (u8s (xs ++ [UInt8.ofNat (first u)])) := by
      rw [u8s_append, List.length_append]
      have hf := first_lt u HU.out
      have e : u8s [UInt8.ofNat (first u)] = [.int .u8 (first u)] := by
        simp [u8s]; omega
      rw [e]
      exact HOW.out
    have HW2 := hid hw2
    have HK2 := hid hk2
    have henc : (xs ++ [UInt8.ofNat (first u)]) ++ tailb u k = xs ++ enc u := by rw [enc, HK.out]; simp
    have HE := hid henc
    clear hsz2 hk2 hw2 henc
    go_loopw [0, 5] (fun x i wr => ∃ (m : Nat) (cur : By), m ≤ k ∧ i = .int .i64 ((m : Int) - 1) ∧ Hid (cur ++ tailb u m = xs ++ enc u) ∧ Hid (wr.ownsRow base 5 1 x cur.length (u8s cur)) ∧ Hid (Kp (fun b => b < base) w wr)) (fun _ i _ => (intOf i + 1).toNat)
    case atStart => exact ⟨k, _, Nat.le_refl _, rfl, HE, HW2, HK2⟩
    case round =>
      obtain ⟨m, cur, hm, rfl, hcur, hown, hkp⟩ := hrel
      obtain ⟨A3, c3, rfl⟩ := own_shape hown.out
      match m, hm with
      | 0, _ =>
        have d0 : decide ((0 : Int) ≤ ((0 : Nat) : Int) - 1) = false := decide_eq_false (by omega)
        go_wp2_with fail
        have hc : cur = xs ++ enc u := by have := hcur.out; simpa [tailb] using this
        subst hc
        refine bodyPost_ret (v := .slice A3 (xs ++ enc u).length c3) (by simp [results, Tryz.results86, go_sem]) rfl ⟨⟨_, rfl, hown.out⟩, hkp.out⟩
      | m + 1, hm =>
        have d0 : decide ((0 : Int) ≤ ((m + 1 : Nat) : Int) - 1) = true := decide_eq_true (by omega)
        have hm7 : m ≤ 7 := by omega
        have em : (((m + 1 : Nat) : Int) - 1) = (m : Int) := by omega
        rw [em] at d0
        rw [em]
        have HT := hid (tail_eq u m)
        have hcl : cur.length ≤ xs.length + 9 := by
          have := congrArg List.length hcur.out
          have h9 := enc_len_le u
          simp only [List.length_append] at this
          omega
        have HCL := hid hcl
        clear hcl
        go_wp2_with (at_builtin; rw [HT.out]; go_loud (refine wpList_app el8 (hown.out.alloc _) (sl_new1 _ _ _) (u8_one1 _ _) ?_ (Nat.le_trans HB.out (by have := hkp.out.size; simp; omega)) rfl _ _ rfl rfl rfl ?_); (have := HN.out; have := HCL.out; omega); intro v' w4 hown4 hg4 hob4 hnil4; obtain ⟨A4, c4', rfl⟩ := own_shape hown4; have HOW4 := hid hown4; have HG4 := hid hg4; clear hown4 hg4 hob4 hnil4)
        refine ⟨⟨m, cur ++ [UInt8.ofNat (u / 256 ^ m)], by omega, by go_num, ?_, ?_, ?_⟩, by simp [intOf]⟩
        · have := hcur.out
          rw [tailb] at this
          exact hid (by rw [← this]; simp)
        · refine hid ?_
          rw [u8s_append, List.length_append]
          exact HOW4.out
        · exact hid ((hkp.out.alloc _).then (Kp.grown HG4.out) (fun i hi hS e => by
            have := (hown.out.lt i e.symm).1
            omega))
  · have d8 : decide ((k : Int) < 8) = false := decide_eq_false (by omega)
    have HF : Hid (((256 - 2 ^ (8 - k) : Nat) : Int) = ((first u : Nat) : Int)) := by
      refine hid ?_
      have hu := HU.out
      have : k = 8 := by omega
      subst this
      rw [first, HK.out]
      simp
      omega
    go_wp2_with (at_builtin; rw [HF.out]; go_loud (refine wpList_app el8 (H.out.alloc _) (sl_new1 _ _ _) (u8_one1 _ _) ?_ (Nat.le_trans HB.out (by simp)) rfl _ _ rfl rfl rfl ?_); (have := HN.out; omega); intro v' w2 hown2 hg2 hob2 hnil2; obtain ⟨A2, c2', rfl⟩ := own_shape hown2; have HOW := hid hown2; have HG2 := hid hg2; clear hown2 hg2 hob2 hnil2)
    have hsz2 : w.heap.size ≤ w2.heap.size := by have := HG2.out.size; simp at this; omega
    have hk2 : Kp (fun b => b < base) w w2 := ((Kp.refl _ w).alloc _).then (Kp.grown HG2.out) (fun i hi hS e => by
      have := (H.out.lt i e.symm).1
      omega)
    have hw2 : w2.ownsRow base 5 1 (.slice A2 (xs.length + 1) c2') (xs ++ [UInt8.ofNat (first u)]).length (u8s (xs ++ [UInt8.ofNat (first u)])) := by
      rw [u8s_append, List.length_append]
      have hf := first_lt u HU.out
      have e : u8s [UInt8.ofNat (first u)] = [.int .u8 (first u)] := by
        simp [u8s]; omega
      rw [e]
      exact HOW.out
    have HW2 := hid hw2
    have HK2 := hid hk2
    have henc : (xs ++ [UInt8.ofNat (first u)]) ++ tailb u k = xs ++ enc u := by rw [enc, HK.out]; simp
    have HE := hid henc
    clear hsz2 hk2 hw2 henc
    go_loopw [0, 5] (fun x i wr => ∃ (m : Nat) (cur : By), m ≤ k ∧ i = .int .i64 ((m : Int) - 1) ∧ Hid (cur ++ tailb u m = xs ++ enc u) ∧ Hid (wr.ownsRow base 5 1 x cur.length (u8s cur)) ∧ Hid (Kp (fun b => b < base) w wr)) (fun _ i _ => (intOf i + 1).toNat)
    case atStart => exact ⟨k, _, Nat.le_refl _, rfl, HE, HW2, HK2⟩
    case round =>
      obtain ⟨m, cur, hm, rfl, hcur, hown, hkp⟩ := hrel
      obtain ⟨A3, c3, rfl⟩ := own_shape hown.out
      match m, hm with
      | 0, _ =>
        have d0 : decide ((0 : Int) ≤ ((0 : Nat) : Int) - 1) = false := decide_eq_false (by omega)
        go_wp2_with fail
        have hc : cur = xs ++ enc u := by have := hcur.out; simpa [tailb] using this
        subst hc
        refine bodyPost_ret (v := .slice A3 (xs ++ enc u).length c3) (by simp [results, Tryz.results86, go_sem]) rfl ⟨⟨_, rfl, hown.out⟩, hkp.out⟩
      | m + 1, hm =>
        have d0 : decide ((0 : Int) ≤ ((m + 1 : Nat) : Int) - 1) = true := decide_eq_true (by omega)
        have hm7 : m ≤ 7 := by omega
        have em : (((m + 1 : Nat) : Int) - 1) = (m : Int) := by omega
        rw [em] at d0
        rw [em]
        have HT := hid (tail_eq u m)
        have hcl : cur.length ≤ xs.length + 9 := by
          have := congrArg List.length hcur.out
          have h9 := enc_len_le u
          simp only [List.length_append] at this
          omega
        have HCL := hid hcl
        clear hcl
        go_wp2_with (at_builtin; rw [HT.out]; go_loud (refine wpList_app el8 (hown.out.alloc _) (sl_new1 _ _ _) (u8_one1 _ _) ?_ (Nat.le_trans HB.out (by have := hkp.out.size; simp; omega)) rfl _ _ rfl rfl rfl ?_); (have := HN.out; have := HCL.out; omega); intro v' w4 hown4 hg4 hob4 hnil4; obtain ⟨A4, c4', rfl⟩ := own_shape hown4; have HOW4 := hid hown4; have HG4 := hid hg4; clear hown4 hg4 hob4 hnil4)
        refine ⟨⟨m, cur ++ [UInt8.ofNat (u / 256 ^ m)], by omega, by go_num, ?_, ?_, ?_⟩, by simp [intOf]⟩
        · have := hcur.out
          rw [tailb] at this
          exact hid (by rw [← this]; simp)
        · refine hid ?_
          rw [u8s_append, List.length_append]
          exact HOW4.out
        · exact hid ((hkp.out.alloc _).then (Kp.grown HG4.out) (fun i hi hS e => by
            have := (hown.out.lt i e.symm).1
            omega))
end Go.Proofs.YtodledidabdkaaaGreatDoor

namespace Go.Proofs.YtodledidabdkaaaGreatDoor
open Go.RowKit
set_option linter.unusedVariables false
set_option linter.unusedSimpArgs false
/-- v is a slice of these bytes. -/
def Rb (v : Value) (xs : By) (w : World) : Prop := ∃ A c, v = .slice A xs.length c ∧ Sl A xs.length c 1 (u8s xs) w
theorem own_rb {w : World} {base e : Nat} {v : Value} {xs : By} (h : w.ownsRow base e 1 v xs.length (u8s xs)) : Rb v xs w := by
  obtain ⟨A, c, rfl⟩ := own_shape h
  refine ⟨A, c, rfl, ?_⟩
  have := (own_sl h (Nat.le_refl _)).1
  rwa [List.take_of_length_le (by simp)] at this
theorem rb_nil (w : World) : Rb (.slice none 0 0) [] w := ⟨none, 0, rfl, rfl, Nat.le_refl _, fun h => absurd h (by simp)⟩
def OutB (w : World) (xs : By) (e : Ending) (w' : World) : Prop := (∃ v, e = .returned v ∧ w'.ownsRow w.heap.size 5 1 v xs.length (u8s xs)) ∧ Kp All w w'
theorem strCells_u8s (s : ByteArray) : Lib.strCells s = u8s s.data.toList := rfl
theorem max63 : (9223372036854775807 : Nat) ≤ maxLen := by decide
theorem kp_base {w w' : World} (h : Kp (fun b => b < w.heap.size) w w') : Kp All w w' := h.mono fun _ hk _ => hk
set_option maxRecDepth 100000 in
theorem put_any (v : Value) (xs : By) (u : Nat) (hu : u < 2 ^ 64) (hn : xs.length ≤ 140737488300000) (w : World) (h : Rb v xs w) :
    Calls Tryz.prog 52 #[v, .int .u64 u] w (OutB w (xs ++ enc u)) := by
  obtain ⟨A, c, rfl, h⟩ := h
  have H := hid h
  have HU := hid hu
  have HN := hid hn
  clear h hu hn
  go_enter Tryz.func52, Tryz.ntmps52
  go_wp2_with (at_builtin; go_loud (refine wpList_app el8 (World.ownsRow_nil w w.heap.size 5 1) H.out (u8s_one xs) ?_ (Nat.le_refl _) rfl _ _ rfl rfl rfl ?_); (have := HN.out; omega); intro v' w2 hown2 hg2 hob2 hnil2; obtain ⟨A2, c2', rfl⟩ := own_shape hown2; have HOW := hid hown2; have HG2 := hid hg2; clear hown2 hg2 hob2 hnil2)
  have hrow := HOW.out
  rw [List.nil_append, Nat.zero_add] at hrow
  have hk : Kp All w w2 := (Kp.refl _ w).then (Kp.grown HG2.out) (fun i hi _ e => by simp [Value.ownBlock] at e)
  refine (put0_any w.heap.size _ xs u HU.out HN.out w2 hrow hk.size).mono ?_
  rintro e w3 ⟨⟨v3, rfl, h3⟩, k3⟩
  obtain ⟨A3, c3, rfl⟩ := own_shape h3
  obtain ⟨n3, hn3⟩ : ∃ n3, (xs ++ enc u).length = n3 := ⟨_, rfl⟩
  rw [hn3] at h3
  rw [hn3]
  have H3 := hid h3
  have HN3 := hid hn3
  clear hn3
  have K3 := hid (hk.then k3 (fun i hi _ => hi))
  clear hrow hk h3 k3
  go_wp2_with fail
  go_ret
  exact ⟨⟨_, rfl, by rw [HN3.out]; exact H3.out⟩, K3.out⟩
set_option maxRecDepth 100000 in
theorem text0_any (base : Nat) (v : Value) (xs : By) (s : ByteArray) (hn : xs.length + s.size ≤ 140737488200000) (w : World) (h : w.ownsRow base 5 1 v xs.length (u8s xs)) (hb : base ≤ w.heap.size) :
    Calls Tryz.prog 87 #[v, .string s] w fun e w' => (∃ v', e = .returned v' ∧ w'.ownsRow base 5 1 v' (xs ++ encText s).length (u8s (xs ++ encText s))) ∧ Kp (fun b => b < base) w w' := by
  obtain ⟨A, c, rfl⟩ := own_shape h
  have H := hid h
  have HB := hid hb
  have hu : IntKind.u64.wrap (s.size : Int) = s.size := by rw [wrap64u]; omega
  have HN := hid hn
  clear h hn hb
  go_enter Tryz.func87, Tryz.ntmps87
  go_wp2_with fail
  refine (put0_any base _ xs s.size (by have := HN.out; omega) (by have := HN.out; omega) w H.out HB.out).mono ?_
  rintro e w3 ⟨⟨v3, rfl, h3⟩, k3⟩
  obtain ⟨A3, c3, rfl⟩ := own_shape h3
  have hl : (xs ++ enc s.size).length ≤ xs.length + 9 := by have := enc_len_le s.size; simp; omega
  obtain ⟨n3, hn3⟩ : ∃ n3, (xs ++ enc s.size).length = n3 := ⟨_, rfl⟩
  rw [hn3] at h3 hl
  rw [hn3]
  have H3 := hid h3
  have HN3 := hid hn3
  clear hn3
  have K3 := hid k3
  have HL := hid hl
  clear h3 k3 hl
  obtain ⟨i, hi, hz, hs, hby⟩ := info_parts el8.info
  go_wp2_with (at_builtin; go_loud (refine Lib.wpList_append_own_string _ rfl _ _ 48 9 rfl base 5 i Tryz.underlying48 Tryz.underlying9 hi hz hs hby _ _ _ rfl H3.out s rfl ?_ ?_ (Nat.le_trans HB.out K3.out.size) ?_); (have h1 := HN.out; have h2 := HL.out; have h3 := max63; omega); (have h1 := HN.out; have h2 := HL.out; omega); intro v' w4 hown4 hg4 hnil4; obtain ⟨A4, c4', rfl⟩ := own_shape hown4; have HOW4 := hid hown4; have HG4 := hid hg4; clear hown4 hg4 hnil4)
  go_ret
  refine ⟨⟨_, rfl, ?_⟩, K3.out.then (Kp.grown HG4.out) (fun i hi hS e => by have := (H3.out.lt i e.symm).1; omega)⟩
  have := HOW4.out
  rw [strCells_u8s, ← u8s_append, List.append_assoc] at this
  have e : (xs ++ encText s).length = (xs ++ enc s.size).length + s.size := by
    simp [encText]
    omega
  rw [e, HN3.out]
  exact this
set_option maxRecDepth 100000 in
theorem puttext_any (v : Value) (xs : By) (s : ByteArray) (hn : xs.length + s.size ≤ 140737488200000) (w : World) (h : Rb v xs w) :
    Calls Tryz.prog 53 #[v, .string s] w (OutB w (xs ++ encText s)) := by
  obtain ⟨A, c, rfl, h⟩ := h
  have H := hid h
  have HN := hid hn
  clear h hn
  go_enter Tryz.func53, Tryz.ntmps53
  go_wp2_with (at_builtin; go_loud (refine wpList_app el8 (World.ownsRow_nil w w.heap.size 5 1) H.out (u8s_one xs) ?_ (Nat.le_refl _) rfl _ _ rfl rfl rfl ?_); (have := HN.out; omega); intro v' w2 hown2 hg2 hob2 hnil2; obtain ⟨A2, c2', rfl⟩ := own_shape hown2; have HOW := hid hown2; have HG2 := hid hg2; clear hown2 hg2 hob2 hnil2)
  have hrow := HOW.out
  rw [List.nil_append, Nat.zero_add] at hrow
  have hk : Kp All w w2 := (Kp.refl _ w).then (Kp.grown HG2.out) (fun i hi _ e => by simp [Value.ownBlock] at e)
  refine (text0_any w.heap.size _ xs s HN.out w2 hrow hk.size).mono ?_
  rintro e w3 ⟨⟨v3, rfl, h3⟩, k3⟩
  obtain ⟨A3, c3, rfl⟩ := own_shape h3
  obtain ⟨n3, hn3⟩ : ∃ n3, (xs ++ encText s).length = n3 := ⟨_, rfl⟩
  rw [hn3] at h3
  rw [hn3]
  have H3 := hid h3
  have HN3 := hid hn3
  clear hn3
  have K3 := hid (hk.then k3 (fun i hi _ => hi))
  clear hrow hk h3 k3
  go_wp2_with fail
  go_ret
  exact ⟨⟨_, rfl, by rw [HN3.out]; exact H3.out⟩, K3.out⟩
end Go.Proofs.YtodledidabdkaaaGreatDoor

namespace Go.Proofs.YtodledidabdkaaaGreatDoor
open Go.RowKit
set_option linter.unusedVariables false
set_option linter.unusedSimpArgs false
theorem run_conv_row {w : World} {v : Value} {xs : By} (h : Rb v xs w) : (convert 48 9 v).run Tryz.prog w = .ok (.string ⟨xs.toArray⟩) w := by
  obtain ⟨A, c, rfl, h1, h2, h3⟩ := h
  cases xs with
  | nil =>
    cases A with
    | none => exact Lib.run_convert_nil_bytes w _ _ _ _ Tryz.underlying48 Tryz.underlying5 Tryz.underlying9
    | some a => exact run_convert_bytes_back w _ _ _ a c [] Tryz.underlying48 Tryz.underlying5 Tryz.underlying9 (fun j hj => absurd hj (by simp))
  | cons x xs =>
    obtain ⟨b, o, rfl, hr⟩ := h3 (by simp)
    refine run_convert_bytes_back w _ _ _ _ c (x :: xs) Tryz.underlying48 Tryz.underlying5 Tryz.underlying9 (fun j hj => ?_)
    rw [add_lit0]
    refine hr j _ ?_
    simp only [u8s, List.getElem?_map, List.getElem?_eq_getElem hj, Option.map_some]
def strOfB (b : By) : ByteArray := ⟨b.toArray⟩
end Go.Proofs.YtodledidabdkaaaGreatDoor

namespace Go.Proofs.YtodledidabdkaaaGreatDoor
open Go.RowKit
set_option linter.unusedVariables false
set_option linter.unusedSimpArgs false
def lead (x : Nat) : Nat := 8 - Lib.bitLen (255 - x)
def getFold (v : Nat) (l : By) : Nat := l.foldl (fun u x => u * 256 + x.toNat) v
/-- What Get tells: the number, how many bytes it has; (0, 0): none. -/
def getP : By → Nat × Nat
  | [] => (0, 0)
  | x :: r => if r.length < lead x.toNat then (0, 0) else if beh (getFold (x.toNat % 2 ^ (8 - lead x.toNat)) (r.take (lead x.toNat))) = lead x.toNat then (getFold (x.toNat % 2 ^ (8 - lead x.toNat)) (r.take (lead x.toNat)), lead x.toNat + 1) else (0, 0)
theorem lead_facts : ∀ x : Fin 256, lead x.val ≤ 8 ∧ x.val % 2 ^ (8 - lead x.val) < 2 ^ (7 - lead x.val) ∧ (x.val &&& (255 - (256 - 2 ^ (8 - lead x.val)))) = x.val % 2 ^ (8 - lead x.val) := by decide +kernel
theorem getFold_lt {v a : Nat} (l : By) (h : v < 2 ^ a) : getFold v l < 2 ^ (a + 8 * l.length) := by
  induction l generalizing v a with
  | nil => simpa [getFold] using h
  | cons x l ih =>
    have hx := x.toNat_lt
    have h1 : v * 256 + x.toNat < 2 ^ (a + 8) := by
      rw [Nat.pow_add]
      have : (v + 1) * 2 ^ 8 ≤ 2 ^ a * 2 ^ 8 := Nat.mul_le_mul_right _ h
      omega
    have := ih h1
    rw [List.length_cons, show a + 8 * (l.length + 1) = a + 8 + 8 * l.length from by omega]
    exact this
theorem getFold_take {v k : Nat} {l : By} {x : UInt8} (h : l[k]? = some x) : getFold v (l.take (k + 1)) = getFold v (l.take k) * 256 + x.toNat := by
  rw [List.take_add_one, h, getFold, List.foldl_append]; rfl
theorem or_byte (u : Nat) (x : UInt8) (hu : u * 256 < 2 ^ 64) : bits .or .u64 (IntKind.u64.wrap ((u : Int) * 256)) (x.toNat : Int) = ((u * 256 + x.toNat : Nat) : Int) := by
  have hx := x.toNat_lt
  have e : IntKind.u64.wrap ((u : Int) * 256) = ((u * 256 : Nat) : Int) := by
    show ((u : Int) * 256) % 18446744073709551616 = _
    omega
  rw [e, u64_or_nat _ _ (by omega) (by omega)]
  have := Nat.two_pow_add_eq_or_of_lt (i := 8) (b := x.toNat) (by omega) u
  congr 1
  rw [Nat.mul_comm]
  exact this.symm
theorem or_byte' (u : Nat) (x : UInt8) (hu : u * 256 < 2 ^ 64) : bits .or .u64 ((u : Int) * 256) (x.toNat : Int) = ((u * 256 + x.toNat : Nat) : Int) := by
  have h := or_byte u x hu
  have e : IntKind.u64.wrap ((u : Int) * 256) = (u : Int) * 256 := by
    show ((u : Int) * 256) % 18446744073709551616 = _
    omega
  rwa [e] at h
theorem tail_fold (u k : Nat) : ∀ v, v = u / 256 ^ k → ∀ j ≤ k, getFold v ((tailb u k).take j) = u / 256 ^ (k - j) := by
  intro v hv j
  induction j with
  | zero => intro _; simpa [getFold] using hv
  | succ j ih =>
    intro hj
    have hget : (tailb u k)[j]? = some (UInt8.ofNat (u / 256 ^ (k - j - 1))) := by
      clear ih hv
      induction k generalizing j with
      | zero => omega
      | succ k ih =>
        cases j with
        | zero => simp [tailb]
        | succ j =>
          rw [tailb, List.getElem?_cons_succ, ih j (by omega)]
          rw [show k + 1 - (j + 1) - 1 = k - j - 1 from by omega]
    rw [getFold_take hget, ih (by omega)]
    have e : k - j = (k - (j + 1)) + 1 := by omega
    rw [show k - j - 1 = k - (j + 1) from by omega]
    rw [e, Nat.pow_succ, ← Nat.div_div_eq_div_mul]
    have : (UInt8.ofNat (u / 256 ^ (k - (j + 1)))).toNat = u / 256 ^ (k - (j + 1)) % 256 := by simp
    rw [this]
    omega
theorem lead_first (u : Nat) (hu : u < 2 ^ 64) : lead (first u) = beh u ∧ first u % 2 ^ (8 - beh u) = u / 256 ^ beh u := by
  have h8 := beh_le u
  have hb := beh_lt u
  have key : ∀ k : Fin 8, ∀ v : Fin 128, v.val < 2 ^ (7 - k.val) → lead (256 - 2 ^ (8 - k.val) + v.val) = k.val ∧ (256 - 2 ^ (8 - k.val) + v.val) % 2 ^ (8 - k.val) = v.val := by decide +kernel
  by_cases h : beh u < 8
  · have h1 := hb h
    have h2 : u / 256 ^ beh u < 2 ^ (7 - beh u) := by
      rw [Nat.div_lt_iff_lt_mul (Nat.pow_pos (by omega)), show (256 : Nat) = 2 ^ 8 from rfl, ← Nat.pow_mul, ← Nat.pow_add]
      rwa [show 7 - beh u + 8 * beh u = 7 * (beh u + 1) from by omega]
    have h3 : 2 ^ (7 - beh u) ≤ 2 ^ 7 := Nat.pow_le_pow_right (by omega) (by omega)
    exact key ⟨beh u, h⟩ ⟨u / 256 ^ beh u, by omega⟩ h2
  · have e : beh u = 8 := by omega
    have h0 : u / 256 ^ 8 = 0 := Nat.div_eq_of_lt (by omega)
    rw [first, e, h0]
    decide +kernel
/-- The way back. -/
theorem getP_enc (u : Nat) (hu : u < 2 ^ 64) (r : By) : getP (enc u ++ r) = (u, beh u + 1) := by
  obtain ⟨h1, h2⟩ := lead_first u hu
  have hf := first_lt u hu
  have e : (UInt8.ofNat (first u)).toNat = first u := by simp; omega
  have ht : (tailb u (beh u) ++ r).take (beh u) = (tailb u (beh u)).take (beh u) := by
    rw [List.take_append_of_le_length (by rw [tailb_len]; exact Nat.le_refl _)]
  have hg := tail_fold u (beh u) _ rfl (beh u) (Nat.le_refl _)
  rw [enc, List.cons_append, getP, e, h1, h2, ht, hg, Nat.sub_self, Nat.pow_zero, Nat.div_one, if_neg (by rw [List.length_append, tailb_len]; omega), if_pos rfl]
theorem drop_enc (u : Nat) (r : By) : (enc u ++ r).drop (beh u + 1) = r := by
  rw [← enc_len, List.drop_left]
theorem lz8_any (x : Nat) (w : World) (h1 : x < 256) :
    Calls Tryz.prog 138 #[.int .u8 x] w fun e w' => e = .returned (.int .i64 (8 - (Lib.bitLen x : Int))) ∧ w' = w := Any.bits_LeadingZeros8 Tryz.lz8 x w (by omega) (by omega)
theorem or2 {a b P : Prop} (h : a ∨ b) (h1 : a → P) (h2 : b → P) : P := h.elim h1 h2
theorem xor_facts : ∀ x : Fin 256, bits .xor .u8 IntKind.u8.max (x.val : Int) = ((255 - x.val : Nat) : Int) := by decide +kernel
theorem getP_nil : getP [] = (0, 0) := rfl
set_option maxRecDepth 100000 in
set_option maxHeartbeats 2000000 in
theorem get_any (v : Value) (xs : By) (w : World) (h : Foot All (Rb v xs) w) (hl : xs.length ≤ 9000000000000000000) :
    Calls Tryz.prog 123 #[v] w fun e w' => e = .returned (.tuple #[.int .u64 ((getP xs).1 : Nat), .int .i64 ((getP xs).2 : Nat)]) ∧ Kp All w w' := by
  obtain ⟨A, c, rfl, _⟩ := h.now
  have H := hid (show Foot All (Sl A xs.length c 1 (u8s xs)) w from h.imp fun u hu => by
    obtain ⟨A', c', e, hs⟩ := hu
    injection e with e1 _ e2; subst e1 e2; exact hs)
  clear h
  cases xs with
  | nil =>
    go_enter Tryz.func123, Tryz.ntmps123
    go_wp2_with fail
    exact bodyPost_ret (v := .tuple #[.int .u64 0, .int .i64 0]) (by simp [results, Tryz.results123, go_sem]) rfl ⟨rfl, Kp.refl _ _⟩
  | cons x r =>
    obtain ⟨n, hn⟩ : ∃ n, (x :: r).length = n := ⟨_, rfl⟩
    have hrn : r.length + 1 = n := hn
    rw [hn] at hl ⊢
    obtain ⟨hc1, hc2, h3⟩ := H.out.now
    rw [hn] at hc2
    obtain ⟨b, o, eA, hr⟩ := h3 (by omega)
    subst eA
    have hx := x.toNat_lt
    have hat : ∀ j y, (x :: r)[j]? = some y → w.cell? ⟨b, o + j, none⟩ = some (.int .u8 y.toNat) := fun j y hj => hr j _ (by rw [u8s, List.getElem?_map, hj]; rfl)
    have p0 : w.cell? ⟨b, o, none⟩ = some (.int .u8 x.toNat) := hat 0 x rfl
    obtain ⟨k, hk⟩ : ∃ k, lead x.toNat = k := ⟨_, rfl⟩
    obtain ⟨hk8, hv, hand⟩ := lead_facts ⟨x.toNat, hx⟩
    simp only [hk] at hk8 hv hand
    have hbl : (8 - (Lib.bitLen (255 - x.toNat) : Int)) = (k : Nat) := by
      have h1 := Lib.bitLen_le8 ⟨255 - x.toNat, by omega⟩
      simp only at h1
      have h2 := hk
      unfold lead at h2
      omega
    have hxor : bits .xor .u8 IntKind.u8.max (x.toNat : Int) = ((255 - x.toNat : Nat) : Int) := xor_facts ⟨x.toNat, hx⟩
    have HXO := hid hxor
    have HN := hid hn; have HBL := hid hbl; have HAND := hid hand; have HV := hid hv; have HK := hid hk; have HAT := hid hat; have HRN := hid hrn
    have z0 : (0 : Int) < (n : Int) := by omega
    have dn : ((n : Int) == 0) = false := by simp; omega
    clear hn hbl hand hv hk hat hr hc1 h3 hrn hxor
    go_enter Tryz.func123, Tryz.ntmps123
    go_wp2_with fail
    rw [HXO.out]
    refine (lz8_any (255 - x.toNat) _ (by omega)).mono ?_
    rintro e w1 ⟨rfl, rfl⟩
    rw [HBL.out]
    by_cases hkn : n ≤ k
    · have d1 : decide ((n : Int) ≤ (k : Int)) = true := decide_eq_true (by omega)
      go_wp2_with fail
      have hg : getP (x :: r) = (0, 0) := by rw [getP, HK.out, if_pos (by have := HRN.out; omega)]
      exact bodyPost_ret (v := .tuple #[.int .u64 0, .int .i64 0]) (by simp [results, Tryz.results123, go_sem]) rfl ⟨by rw [hg]; rfl, Kp.refl _ _⟩
    · have d1 : decide ((n : Int) ≤ (k : Int)) = false := decide_eq_false (by omega)
      have i1 : (k : Int) + 1 ≤ (n : Int) := by omega
      have i2 : (1 : Int) ≤ (k : Int) + 1 := by omega
      have i3 : (n : Int) ≤ (c : Int) := by omega
      have i4 : (k : Int) + 1 ≤ (c : Int) := by omega
      have i5 : (0 : Int) ≤ (k : Int) + 1 := by omega
      have hwr : IntKind.i64.wrap ((k : Int) + 1) = (k : Int) + 1 := IntWalk.i64_in _ (by omega)
      have hVL := HV.out
      go_wp2_with fail
      have z1 : (0 : Int) < (n : Int) := by omega
      refine wp_region_quiet_lit (by kernel_rfl) (by kernel_rfl) ?_
      go_big_quiet_step (fail)
      go_big_quiet_step (fail)
      go_big_quiet_step (fail)
      go_big_quiet_step (fail)
      go_big_quiet_step ((go_at_call 122; refine (ones_any k hk8 _).mono ?_; rintro e w2 ⟨rfl, rfl⟩; exact ⟨rfl, _, rfl⟩))
      repeat (go_big_quiet_step (fail))
      refine wpQuiet_nil ?_
      intro _ hw'
      obtain ⟨nq, hw''⟩ := hw'
      subst hw''
      obtain ⟨v0, hv0⟩ : ∃ v0, x.toNat % 2 ^ (8 - k) = v0 := ⟨_, rfl⟩
      have HU0 : Hid (IntKind.u64.wrap (bits BinOp.andNot IntKind.u8 (x.toNat : Int) ((256 - 2 ^ (8 - k) : Nat) : Int)) = (v0 : Nat)) := hid (by
        have hp : 0 < 2 ^ (8 - k) := Nat.pow_pos (by omega)
        have h0 : v0 < 256 := by rw [← hv0]; exact Nat.lt_of_le_of_lt (Nat.mod_le _ _) hx
        rw [u8_andNot_nat _ _ (by omega) (by omega), HAND.out, hv0]
        show ((v0 : Int)) % 18446744073709551616 = _
        omega)
      rw [HU0.out]
      have hvb : v0 < 2 ^ (7 - k) := by rw [← hv0]; exact HV.out
      have HVB := hid hvb
      have HV0 := hid hv0
      have HKQ : Hid (Kp All w1 (w1.drewN nq)) := hid ((Kp.refl _ _).drewN _)
      obtain ⟨W2, hW2⟩ : ∃ W2, W2 = w1.drewN nq := ⟨_, rfl⟩
      rw [← hW2] at HKQ ⊢
      have HR := hid (show k ≤ r.length by have := HRN.out; omega)
      have HKA := hid (show Kp All w1 W2 from HKQ.out)
      clear hW2 HU0 hvb hv0 hVL p0
      have hcc : c = 1 ∨ c ≠ 1 := by omega
      refine or2 hcc ?cA ?cB
      case' cA =>
        intro hc1
        have HAT2 := hid (show ∀ j y, r[j]? = some y → j < k → w1.cell? ⟨b, o + j, none⟩ = some (.int .u8 y.toNat) from fun j y h hj => by omega)
        go_wp2_with fail
      case' cB =>
        intro hc1
        have HAT2 := hid (show ∀ j y, r[j]? = some y → j < k → w1.cell? ⟨b, o + 1 + j, none⟩ = some (.int .u8 y.toNat) from fun j y h hj => by
          have := HAT.out (j + 1) y (by simpa using h)
          rwa [show o + (j + 1) = o + 1 + j from by omega] at this)
        go_wp2_with fail
      all_goals (
        go_loopw [5, 32] (fun u i wr => ∃ j : Nat, j ≤ k ∧ i = .int .i64 j ∧ u = .int .u64 ((getFold v0 (r.take j) : Nat) : Int) ∧ Hid (Kp All w1 wr)) (fun _ i _ => k - (intOf i).toNat)
        case atStart => exact ⟨0, Nat.zero_le _, rfl, by simp [getFold], HKA⟩
        case round =>
          obtain ⟨j, hj, rfl, rfl, hkp⟩ := hrel
          by_cases hlt : j < k
          · have hb0 : decide ((j : Int) < (k : Int)) = true := decide_eq_true (by omega)
            obtain ⟨y, hy⟩ : ∃ y, r[j]? = some y := ⟨_, List.getElem?_eq_getElem (by have := HR.out; omega)⟩
            have q0 := hkp.out.cell (HAT2.out j y hy hlt) trivial
            have j0 : (0 : Int) ≤ (j : Int) := by omega
            have j1 : (j : Int) < (k : Int) := by omega
            have hfl := getFold_lt (r.take j) HVB.out
            have hub : getFold v0 (r.take j) * 256 < 2 ^ 64 := by
              have h1 : getFold v0 (r.take j) * 256 < 2 ^ (7 - k + 8 * (r.take j).length) * 2 ^ 8 := Nat.mul_lt_mul_of_pos_right hfl (by omega)
              rw [← Nat.pow_add] at h1
              have h2 : (r.take j).length ≤ j := by rw [List.length_take]; omega
              exact Nat.lt_of_lt_of_le h1 (Nat.pow_le_pow_right (by omega) (by omega))
            have HOR := hid (or_byte _ y hub)
            have HTK := hid (getFold_take (v := v0) hy)
            have HOQ := hid (or_byte' _ y hub)
            obtain ⟨uj, huj⟩ : ∃ uj, getFold v0 (r.take j) = uj := ⟨_, rfl⟩
            rw [huj] at HOR HTK HOQ ⊢
            clear hfl hub huj hy
            go_wp2_with fail
            have hy8 := y.toNat_lt
            have ew : IntKind.u64.wrap (y.toNat : Int) = (y.toNat : Int) := by
              show (y.toNat : Int) % 18446744073709551616 = _
              omega
            refine ⟨⟨j + 1, by omega, by go_num, by first | (rw [ew, HOR.out, HTK.out]) | (rw [HOQ.out, HTK.out]), hkp⟩, by simp [intOf]; omega⟩
          · have hb0 : decide ((j : Int) < (k : Int)) = false := decide_eq_false (by omega)
            obtain rfl : j = k := by omega
            obtain ⟨uj, huj⟩ : ∃ uj, getFold v0 (r.take j) = uj := ⟨_, rfl⟩
            have hul : uj < 2 ^ 64 := by
              have h1 := getFold_lt (r.take j) HVB.out
              have h2 : (r.take j).length ≤ j := by rw [List.length_take]; omega
              rw [huj] at h1
              exact Nat.lt_of_lt_of_le h1 (Nat.pow_le_pow_right (by omega) (by omega))
            have HUJ := hid huj
            rw [huj]
            clear huj
            go_wp2_with fail
            refine (behind_any uj hul _).mono ?_
            rintro e w3 ⟨rfl, rfl⟩
            by_cases hbe : beh uj = j
            · have hg : getP (x :: r) = (uj, j + 1) := by
                rw [getP, HK.out, if_neg (by have := HR.out; omega), HV0.out, HUJ.out, if_pos hbe]
              rw [hbe]
              have HG := hid hg
              clear hg
              go_wp2_with fail
              exact bodyPost_ret (v := .tuple #[.int .u64 uj, .int .i64 ((j : Int) + 1)]) (by simp [results, Tryz.results123, go_sem]) rfl ⟨by rw [HG.out]; rfl, hkp.out⟩
            · have hg : getP (x :: r) = (0, 0) := by
                rw [getP, HK.out, if_neg (by have := HR.out; omega), HV0.out, HUJ.out, if_neg hbe]
              have hne : (((beh uj : Nat) : Int) != (j : Int)) = true := by simp; omega
              have HG := hid hg
              clear hg
              go_wp2_with fail
              exact bodyPost_ret (v := .tuple #[.int .u64 0, .int .i64 0]) (by simp [results, Tryz.results123, go_sem]) rfl ⟨by rw [HG.out]; rfl, hkp.out⟩)
end Go.Proofs.YtodledidabdkaaaGreatDoor

namespace Go.Proofs.YtodledidabdkaaaGreatDoor
open Go.RowKit
set_option linter.unusedVariables false
set_option linter.unusedSimpArgs false
def zagP (u : Nat) : Int := ((u / 2 : Nat) : Int) - ((u % 2 : Nat) : Int) * 9223372036854775808
theorem zag_zig (n : Int) (h1 : -9223372036854775808 ≤ n) (h2 : n ≤ 9223372036854775807) : zagP (zig n) = n := by
  unfold zagP zig
  split <;> omega
theorem zag_bits (u : Nat) (hu : u < 2 ^ 64) : IntKind.i64.wrap (bits BinOp.or IntKind.u64 (IntKind.u64.wrap ((u : Int) * 9223372036854775808)) ((u : Int) / 2)) = zagP u := by
  have e1 : IntKind.u64.wrap ((u : Int) * 9223372036854775808) = (((u % 2) * 2 ^ 63 : Nat) : Int) := by
    show ((u : Int) * 9223372036854775808) % 18446744073709551616 = _
    omega
  have e2 : (u : Int) / 2 = ((u / 2 : Nat) : Int) := by omega
  rw [e1, e2, u64_or_nat _ _ (by omega) (by omega)]
  have h := Nat.two_pow_add_eq_or_of_lt (i := 63) (b := u / 2) (by omega) (u % 2)
  rw [Nat.mul_comm] at h
  rw [← h]
  unfold zagP
  rw [IntKind.wrap_i64]
  omega
/-- What GetText tells. -/
def getT (xs : By) : ByteArray × Nat := if (getP xs).2 = 0 ∨ xs.length - (getP xs).2 < (getP xs).1 then (⟨#[]⟩, 0) else (strOfB ((xs.drop (getP xs).2).take (getP xs).1), (getP xs).2 + (getP xs).1)
theorem getP_le (xs : By) : (getP xs).2 ≤ xs.length := by
  cases xs with
  | nil => exact Nat.le_refl _
  | cons x r =>
    rw [getP]
    split
    · exact Nat.zero_le _
    · split
      · simp only [List.length_cons]; omega
      · exact Nat.zero_le _
theorem getP_lt (xs : By) : (getP xs).1 < 2 ^ 64 := by
  cases xs with
  | nil => decide
  | cons x r =>
    rw [getP]
    have hx := x.toNat_lt
    obtain ⟨h8, hv, _⟩ := lead_facts ⟨x.toNat, hx⟩
    simp only at h8 hv
    split
    · decide
    · split
      · have h1 := getFold_lt (r.take (lead x.toNat)) hv
        have h2 : (r.take (lead x.toNat)).length ≤ lead x.toNat := by rw [List.length_take]; omega
        exact Nat.lt_of_lt_of_le h1 (Nat.pow_le_pow_right (by omega) (by omega))
      · decide
theorem getT_enc (s : ByteArray) (r : By) (hs : s.size < 2 ^ 64) : getT (encText s ++ r) = (s, (encText s).length) := by
  have hg : getP (encText s ++ r) = (s.size, beh s.size + 1) := by
    rw [encText, List.append_assoc]
    exact getP_enc _ hs _
  have hsz : s.data.toList.length = s.size := Array.length_toList ..
  have hl : (encText s ++ r).length = beh s.size + 1 + s.size + r.length := by
    simp only [encText, List.length_append, enc_len, hsz]
  have hd : (encText s ++ r).drop (beh s.size + 1) = s.data.toList ++ r := by
    rw [encText, List.append_assoc]
    exact drop_enc _ _
  rw [getT, hg]
  simp only
  rw [if_neg (by rw [hl]; omega), hd, ← hsz, List.take_left, hsz]
  have e1 : strOfB s.data.toList = s := by simp [strOfB]
  have e2 : (encText s).length = beh s.size + 1 + s.size := by simp only [encText, List.length_append, enc_len, hsz]
  rw [e1, e2]
set_option maxRecDepth 100000 in
set_option maxHeartbeats 2000000 in
theorem gettext_any (v : Value) (xs : By) (w : World) (h : Foot All (Rb v xs) w) (hl : xs.length ≤ 9000000000000000000) :
    Calls Tryz.prog 90 #[v] w fun e w' => e = .returned (.tuple #[.string (getT xs).1, .int .i64 ((getT xs).2 : Nat)]) ∧ Kp All w w' := by
  obtain ⟨A, c, rfl, hs0⟩ := h.now
  have H := hid h
  have hcap : xs.length ≤ c := hs0.2.1
  clear hs0 h
  obtain ⟨n, hn⟩ : ∃ n, xs.length = n := ⟨_, rfl⟩
  have hatl := getP_le xs
  have hnum := getP_lt xs
  obtain ⟨⟨u, at_⟩, hg⟩ : ∃ q, getP xs = q := ⟨_, rfl⟩
  rw [hg] at hatl hnum
  rw [hn] at hcap hl hatl ⊢
  dsimp only at hatl hnum
  have HN := hid hn; have HG := hid hg
  clear hn hg
  go_enter Tryz.func90, Tryz.ntmps90
  go_wp2_with fail
  refine (get_any _ xs _ (by have h := H.out; rw [HN.out] at h; exact h) (by rw [HN.out]; exact hl)).mono ?_
  rintro e w1 ⟨rfl, hk1⟩
  rw [HG.out]
  dsimp only
  have HK1 := hid hk1
  clear hk1
  by_cases h0 : at_ = 0
  · have d0 : ((at_ : Int) == 0) = true := by simp [h0]
    have ht : getT xs = (⟨#[]⟩, 0) := by rw [getT, HG.out, if_pos (Or.inl h0)]
    go_wp2_with fail
    exact bodyPost_ret (v := .tuple #[.string ⟨#[]⟩, .int .i64 0]) (by simp [results, Tryz.results90, go_sem]) rfl ⟨by rw [ht]; rfl, HK1.out⟩
  · have d0 : ((at_ : Int) == 0) = false := by simp [h0]
    have hsb : IntKind.i64.wrap ((n : Int) - (at_ : Int)) = ((n - at_ : Nat) : Int) := by rw [IntKind.wrap_i64]; omega
    have hcu : IntKind.u64.wrap ((n - at_ : Nat) : Int) = ((n - at_ : Nat) : Int) := by rw [wrap64u]; omega
    by_cases hu : n - at_ < u
    · have d1 : decide ((u : Int) > ((n - at_ : Nat) : Int)) = true := decide_eq_true (by omega)
      have ht : getT xs = (⟨#[]⟩, 0) := by rw [getT, HG.out, if_pos (Or.inr (by rw [HN.out]; exact hu))]
      go_wp2_with fail
      exact bodyPost_ret (v := .tuple #[.string ⟨#[]⟩, .int .i64 0]) (by simp [results, Tryz.results90, go_sem]) rfl ⟨by rw [ht]; rfl, HK1.out⟩
    · have d1 : decide ((u : Int) > ((n - at_ : Nat) : Int)) = false := decide_eq_false (by omega)
      have ht : getT xs = (strOfB ((xs.drop at_).take u), at_ + u) := by rw [getT, HG.out, if_neg (by rw [HN.out]; simp only; omega)]
      have HT := hid ht
      have hui : IntKind.i64.wrap (u : Int) = (u : Int) := IntWalk.i64_in _ (by omega)
      have hsum : IntKind.i64.wrap ((at_ : Int) + (u : Int)) = ((at_ + u : Nat) : Int) := by rw [IntKind.wrap_i64]; omega
      have j1 : (0 : Int) ≤ (at_ : Int) := by omega
      have j2 : (at_ : Int) ≤ ((at_ + u : Nat) : Int) := by omega
      have j3 : ((at_ + u : Nat) : Int) ≤ (c : Int) := by omega
      have hcc : c = at_ ∨ c ≠ at_ := by omega
      clear ht
      obtain ⟨A', c', e, hS⟩ := (H.out.step HK1.out).now
      injection e with e1 e2 e3
      subst e1 e3
      rw [HN.out] at hS
      obtain ⟨hS1, hS2, hS3⟩ := hS
      obtain ⟨b, o, eA, hr⟩ := hS3 (by omega)
      subst eA
      have hlen : ((xs.drop at_).take u).length = u := by rw [List.length_take, List.length_drop, HN.out]; omega
      refine or2 hcc ?cA ?cB
      case' cA =>
        intro hc1
        have hrb : Rb (.slice (some ⟨b, o, none⟩) u 0) ((xs.drop at_).take u) w1 := ⟨_, _, by rw [hlen], by rw [hlen]; exact ⟨by simpa using hlen, by omega, fun h => by omega⟩⟩
      case' cB =>
        intro hc1
        have hrb : Rb (.slice (some ⟨b, o + at_, none⟩) u (c - at_)) ((xs.drop at_).take u) w1 := ⟨_, _, by rw [hlen], by rw [hlen]; exact ⟨by simpa using hlen, by omega, fun h => ⟨b, o + at_, rfl, fun j z hj => by
          have hz : (u8s xs)[at_ + j]? = some z := by
            rw [u8s, List.getElem?_map] at hj ⊢
            rw [List.getElem?_take] at hj
            split at hj
            · rwa [List.getElem?_drop] at hj
            · cases hj
          have := hr _ _ hz
          rwa [show o + (at_ + j) = o + at_ + j from by omega] at this⟩⟩⟩
      all_goals (
        have hcv := run_conv_row hrb
        clear hrb hr hS1 hS2 hS3
        go_wp2_with fail
        exact bodyPost_ret (v := .tuple #[.string (strOfB ((xs.drop at_).take u)), .int .i64 ((at_ : Int) + (u : Int))]) (by simp [results, Tryz.results90, go_sem, strOfB]) rfl ⟨by rw [HT.out]; rfl, HK1.out⟩)
end Go.Proofs.YtodledidabdkaaaGreatDoor

namespace Go.Proofs.YtodledidabdkaaaGreatDoor
open Go.RowKit
set_option linter.unusedVariables false
set_option linter.unusedSimpArgs false
/-- The reader in block q has the bytes xs ahead; b: it is wrong. -/
def Rg (q : Nat) (xs : By) (b : Bool) (w : World) : Prop := ∃ v ty, w.heap[q]? = some (.cells #[v, .bool b] ty (0, 0)) ∧ Foot (fun k => k < q) (Rb v xs) w ∧ xs.length ≤ 9000000000000000000
def rdX (xs : By) (b : Bool) (n : Nat) : By × Bool := if b = true ∨ n = 0 then ([], true) else (xs.drop n, false)
/-- What read leaves. -/
def Rdone (q : Nat) (xs : By) (b : Bool) (n : Nat) (v z : Value) (w : World) (e : Ending) (w' : World) : Prop :=
  e = .returned (if b = true ∨ n = 0 then z else v) ∧ Rg q (rdX xs b n).1 (rdX xs b n).2 w' ∧ Kp (fun k => k ≠ q) w w'
theorem Rg.kept {S : Nat → Prop} {q : Nat} {xs : By} {b : Bool} {w w' : World} (h : Rg q xs b w) (k : Kp S w w') (hS : ∀ i, i ≤ q → S i) : Rg q xs b w' := by
  obtain ⟨v, ty, h1, h2, h3⟩ := h
  exact ⟨v, ty, k.heap h1 (hS q (Nat.le_refl _)), h2.step (k.mono fun i _ hi => hS i (Nat.le_of_lt hi)), h3⟩
theorem Rg.all {q : Nat} {xs : By} {b : Bool} {w w' : World} (h : Rg q xs b w) (k : Kp All w w') : Rg q xs b w' := h.kept k fun _ _ => trivial
theorem rb_shape {S : Nat → Prop} {v : Value} {xs : By} {w : World} (h : Foot S (Rb v xs) w) : ∃ A c, v = .slice A xs.length c ∧ xs.length ≤ c ∧ Foot S (Sl A xs.length c 1 (u8s xs)) w := by
  obtain ⟨A, c, rfl, hs⟩ := h.now
  refine ⟨A, c, rfl, hs.2.1, h.imp fun u hu => ?_⟩
  obtain ⟨A', c', e, hs⟩ := hu
  injection e with e1 _ e2; subst e1 e2; exact hs
theorem rb_drop {S : Nat → Prop} {b o c n : Nat} {xs : By} {w : World} (h : Foot S (Sl (some ⟨b, o, none⟩) xs.length c 1 (u8s xs)) w) (hn : n ≤ xs.length) (hc : c ≠ n) : Foot S (Rb (.slice (some ⟨b, o + n, none⟩) (xs.length - n) (c - n)) (xs.drop n)) w := by
  intro u hu
  obtain ⟨h1, h2, h3⟩ := h u hu
  have hl : (xs.drop n).length = xs.length - n := List.length_drop
  refine ⟨some ⟨b, o + n, none⟩, c - n, by rw [hl], ?_⟩
  rw [hl]
  refine ⟨by simp, by omega, fun hp => ?_⟩
  obtain ⟨b', o', e, hr⟩ := h3 (by omega)
  injection e with e; injection e with e1 e2; subst e1 e2
  refine ⟨b, o + n, rfl, fun j z hj => ?_⟩
  have hz : (u8s xs)[n + j]? = some z := by
    rw [u8s, List.getElem?_map] at hj ⊢
    rwa [List.getElem?_drop] at hj
  have := hr _ _ hz
  rwa [show o + (n + j) = o + n + j from by omega] at this
theorem rb_empty {S : Nat → Prop} {A : Option Addr} {w : World} : Foot S (Rb (.slice A 0 0) []) w := fun u _ => ⟨A, 0, rfl, rfl, Nat.le_refl _, fun h => absurd h (by simp)⟩
theorem getT_le (xs : By) : (getT xs).2 ≤ xs.length := by
  have := getP_le xs
  unfold getT
  split
  · exact Nat.zero_le _
  · simp only; omega
set_option maxRecDepth 100000 in
set_option maxHeartbeats 2000000 in
theorem readn_any (q : Nat) (xs : By) (b : Bool) (w : World) (h : Rg q xs b w) :
    Calls Tryz.prog 124 #[.pointer (some ⟨q, 0, none⟩), .func (.func 123) #[] #[]] w (Rdone q xs b (getP xs).2 (.int .u64 (getP xs).1) (.int .u64 0) w) := by
  obtain ⟨v, ty, hc, hf, hl⟩ := h
  obtain ⟨A, c, rfl, hcap, hS⟩ := rb_shape hf
  have HF := hid hf; have HS := hid hS; have HC := hid hc
  have c0 := blk_cell hc
  have hq := blk_lt hc
  have hle := getP_le xs
  obtain ⟨⟨u, n⟩, hg⟩ : ∃ g, getP xs = g := ⟨_, rfl⟩
  rw [hg] at hle
  dsimp only at hle
  have HG := hid hg
  rw [hg]
  dsimp only
  clear hf hS hc hg
  go_enter Tryz.func124, Tryz.ntmps124
  go_wp2_with fail
  refine (get_any _ xs _ (HF.out.mono fun _ _ _ => trivial) hl).mono ?_
  rintro e w1 ⟨rfl, hk1⟩
  rw [HG.out]
  dsimp only
  have hc1 := hk1.heap HC.out trivial
  have c1 := blk_cell hc1
  have f1 := blk_free hc1
  have HC1 := hid hc1; have HK1 := hid hk1
  clear hk1 hc1 c0
  have kq : ∀ (u v : Value) (i j : Nat), Kp (fun k => k ≠ q) w ((w1.setCell ⟨q, i, none⟩ u).setCell ⟨q, j, none⟩ v) := fun u v i j => ((HK1.out.all).setOut (by simp) _).setOut (by simp) _
  have kq1 : ∀ (u v : Value) (i j : Nat), Kp (fun k => k ≠ q) w1 ((w1.setCell ⟨q, i, none⟩ u).setCell ⟨q, j, none⟩ v) := fun u v i j => ((Kp.refl _ _).setOut (by simp) _).setOut (by simp) _
  have KQ := hid kq; have KQ1 := hid kq1
  clear kq kq1
  cases b with
  | true =>
    go_wp2_with fail
    refine bodyPost_ret (v := .int .u64 0) (by simp [results, Tryz.results124, go_sem]) rfl ⟨by rw [if_pos (Or.inl rfl)], ?_, KQ.out _ _ _ _⟩
    rw [rdX, if_pos (Or.inl rfl)]
    exact ⟨.slice none 0 0, ty, by rw [blk_set (blk_set HC1.out 1 _) 0]; simp, rb_empty, by simp⟩
  | false =>
    by_cases hn : n = 0
    · have d0 : ((n : Int) == 0) = true := by simp [hn]
      go_wp2_with fail
      refine bodyPost_ret (v := .int .u64 0) (by simp [results, Tryz.results124, go_sem]) rfl ⟨by rw [if_pos (Or.inr hn)], ?_, KQ.out _ _ _ _⟩
      rw [rdX, if_pos (Or.inr hn)]
      exact ⟨.slice none 0 0, ty, by rw [blk_set (blk_set HC1.out 1 _) 0]; simp, rb_empty, by simp⟩
    · have d0 : ((n : Int) == 0) = false := by simp [hn]
      obtain ⟨m, hm⟩ : ∃ m, xs.length = m := ⟨_, rfl⟩
      have HM := hid hm
      rw [hm] at hle hcap c1
      have j1 : (n : Int) ≤ (m : Int) := by omega
      have j2 : (0 : Int) ≤ (n : Int) := by omega
      have j3 : (m : Int) ≤ (c : Int) := by omega
      have hnb : ¬ (false = true ∨ n = 0) := by simp [hn]
      obtain ⟨_, _, h3⟩ := HS.out.now
      obtain ⟨bk, o, eA, _⟩ := h3 (by omega)
      subst eA
      clear h3 hm
      have hcc : c = n ∨ c ≠ n := by omega
      refine or2 hcc ?cA ?cB
      case' cA =>
        intro hc1
        have hrb : Foot (fun k => k < q) (Rb (.slice (some ⟨bk, o, none⟩) 0 0) (xs.drop n)) w := by
          rw [List.drop_eq_nil_of_le (by rw [HM.out]; omega)]
          exact rb_empty
        obtain rfl : m = n := by omega
        subst hc1
        have HRB := hid hrb
        clear hrb
        go_wp2_with fail
      case' cB =>
        intro hc1
        have hrb := rb_drop HS.out (by rw [HM.out]; exact hle) hc1
        rw [HM.out] at hrb
        have HRB := hid hrb
        clear hrb
        go_wp2_with fail
      all_goals (
        refine bodyPost_ret (v := .int .u64 u) (by simp [results, Tryz.results124, go_sem]) rfl ⟨by rw [if_neg hnb], ?_, KQ.out _ _ _ _⟩
        rw [rdX, if_neg hnb]
        refine ⟨_, ty, by rw [blk_set (blk_set HC1.out 1 _) 0]; rfl, HRB.out.step ((KQ.out _ _ _ _).mono fun k _ hk => Nat.ne_of_lt hk), ?_⟩
        rw [List.length_drop]
        omega)
set_option maxRecDepth 100000 in
set_option maxHeartbeats 2000000 in
theorem readt_any (q : Nat) (xs : By) (b : Bool) (w : World) (h : Rg q xs b w) :
    Calls Tryz.prog 89 #[.pointer (some ⟨q, 0, none⟩), .func (.func 90) #[] #[]] w (Rdone q xs b (getT xs).2 (.string (getT xs).1) (.string ⟨#[]⟩) w) := by
  obtain ⟨v, ty, hc, hf, hl⟩ := h
  obtain ⟨A, c, rfl, hcap, hS⟩ := rb_shape hf
  have HF := hid hf; have HS := hid hS; have HC := hid hc
  have c0 := blk_cell hc
  have hq := blk_lt hc
  have hle := getT_le xs
  obtain ⟨⟨u, n⟩, hg⟩ : ∃ g, getT xs = g := ⟨_, rfl⟩
  rw [hg] at hle
  dsimp only at hle
  have HG := hid hg
  rw [hg]
  dsimp only
  clear hf hS hc hg
  go_enter Tryz.func89, Tryz.ntmps89
  go_wp2_with fail
  refine (gettext_any _ xs _ (HF.out.mono fun _ _ _ => trivial) hl).mono ?_
  rintro e w1 ⟨rfl, hk1⟩
  rw [HG.out]
  dsimp only
  have hc1 := hk1.heap HC.out trivial
  have c1 := blk_cell hc1
  have f1 := blk_free hc1
  have HC1 := hid hc1; have HK1 := hid hk1
  clear hk1 hc1 c0
  have kq : ∀ (u v : Value) (i j : Nat), Kp (fun k => k ≠ q) w ((w1.setCell ⟨q, i, none⟩ u).setCell ⟨q, j, none⟩ v) := fun u v i j => ((HK1.out.all).setOut (by simp) _).setOut (by simp) _
  have kq1 : ∀ (u v : Value) (i j : Nat), Kp (fun k => k ≠ q) w1 ((w1.setCell ⟨q, i, none⟩ u).setCell ⟨q, j, none⟩ v) := fun u v i j => ((Kp.refl _ _).setOut (by simp) _).setOut (by simp) _
  have KQ := hid kq; have KQ1 := hid kq1
  clear kq kq1
  cases b with
  | true =>
    go_wp2_with fail
    refine bodyPost_ret (v := .string ⟨#[]⟩) (by simp [results, Tryz.results89, go_sem]) rfl ⟨by rw [if_pos (Or.inl rfl)], ?_, KQ.out _ _ _ _⟩
    rw [rdX, if_pos (Or.inl rfl)]
    exact ⟨.slice none 0 0, ty, by rw [blk_set (blk_set HC1.out 1 _) 0]; simp, rb_empty, by simp⟩
  | false =>
    by_cases hn : n = 0
    · have d0 : ((n : Int) == 0) = true := by simp [hn]
      go_wp2_with fail
      refine bodyPost_ret (v := .string ⟨#[]⟩) (by simp [results, Tryz.results89, go_sem]) rfl ⟨by rw [if_pos (Or.inr hn)], ?_, KQ.out _ _ _ _⟩
      rw [rdX, if_pos (Or.inr hn)]
      exact ⟨.slice none 0 0, ty, by rw [blk_set (blk_set HC1.out 1 _) 0]; simp, rb_empty, by simp⟩
    · have d0 : ((n : Int) == 0) = false := by simp [hn]
      obtain ⟨m, hm⟩ : ∃ m, xs.length = m := ⟨_, rfl⟩
      have HM := hid hm
      rw [hm] at hle hcap c1
      have j1 : (n : Int) ≤ (m : Int) := by omega
      have j2 : (0 : Int) ≤ (n : Int) := by omega
      have j3 : (m : Int) ≤ (c : Int) := by omega
      have hnb : ¬ (false = true ∨ n = 0) := by simp [hn]
      obtain ⟨_, _, h3⟩ := HS.out.now
      obtain ⟨bk, o, eA, _⟩ := h3 (by omega)
      subst eA
      clear h3 hm
      have hcc : c = n ∨ c ≠ n := by omega
      refine or2 hcc ?cA ?cB
      case' cA =>
        intro hc1
        have hrb : Foot (fun k => k < q) (Rb (.slice (some ⟨bk, o, none⟩) 0 0) (xs.drop n)) w := by
          rw [List.drop_eq_nil_of_le (by rw [HM.out]; omega)]
          exact rb_empty
        obtain rfl : m = n := by omega
        subst hc1
        have HRB := hid hrb
        clear hrb
        go_wp2_with fail
      case' cB =>
        intro hc1
        have hrb := rb_drop HS.out (by rw [HM.out]; exact hle) hc1
        rw [HM.out] at hrb
        have HRB := hid hrb
        clear hrb
        go_wp2_with fail
      all_goals (
        refine bodyPost_ret (v := .string u) (by simp [results, Tryz.results89, go_sem]) rfl ⟨by rw [if_neg hnb], ?_, KQ.out _ _ _ _⟩
        rw [rdX, if_neg hnb]
        refine ⟨_, ty, by rw [blk_set (blk_set HC1.out 1 _) 0]; rfl, HRB.out.step ((KQ.out _ _ _ _).mono fun k _ hk => Nat.ne_of_lt hk), ?_⟩
        rw [List.length_drop]
        omega)
end Go.Proofs.YtodledidabdkaaaGreatDoor

namespace Go.Proofs.YtodledidabdkaaaGreatDoor
open Go.RowKit
set_option linter.unusedVariables false
set_option linter.unusedSimpArgs false
theorem num_any (q : Nat) (xs : By) (b : Bool) (w : World) (h : Rg q xs b w) :
    Calls Tryz.prog 91 #[.pointer (some ⟨q, 0, none⟩)] w (Rdone q xs b (getP xs).2 (.int .u64 (getP xs).1) (.int .u64 0) w) := by
  go_enter Tryz.func91, Tryz.ntmps91
  go_wp2_with fail
  refine (readn_any q xs b _ h).mono ?_
  rintro e w1 ⟨he, h1, h2⟩
  obtain ⟨rv, hrv⟩ : ∃ rv : Value, (if b = true ∨ (getP xs).2 = 0 then .int .u64 0 else .int .u64 (getP xs).1) = rv := ⟨_, rfl⟩
  rw [hrv] at he
  subst he
  have HR := hid hrv; have H1 := hid h1; have H2 := hid h2
  clear hrv h1 h2
  go_wp2_with fail
  go_ret
  exact ⟨by rw [HR.out]; rfl, H1.out, H2.out⟩
theorem rtext_any (q : Nat) (xs : By) (b : Bool) (w : World) (h : Rg q xs b w) :
    Calls Tryz.prog 56 #[.pointer (some ⟨q, 0, none⟩)] w (Rdone q xs b (getT xs).2 (.string (getT xs).1) (.string ⟨#[]⟩) w) := by
  go_enter Tryz.func56, Tryz.ntmps56
  go_wp2_with fail
  refine (readt_any q xs b _ h).mono ?_
  rintro e w1 ⟨he, h1, h2⟩
  obtain ⟨rv, hrv⟩ : ∃ rv : Value, (if b = true ∨ (getT xs).2 = 0 then .string ⟨#[]⟩ else .string (getT xs).1) = rv := ⟨_, rfl⟩
  rw [hrv] at he
  subst he
  have HR := hid hrv; have H1 := hid h1; have H2 := hid h2
  clear hrv h1 h2
  go_wp2_with fail
  go_ret
  exact ⟨by rw [HR.out]; rfl, H1.out, H2.out⟩
/-- What Count tells, and leaves. -/
def cntX (xs : By) (b : Bool) (most : Nat) : Nat × By × Bool := if b = true ∨ (getP xs).2 = 0 ∨ most < (getP xs).1 then (0, [], true) else ((getP xs).1, xs.drop (getP xs).2, false)
set_option maxRecDepth 100000 in
theorem rcount_any (q : Nat) (xs : By) (b : Bool) (most : Nat) (hm : most ≤ 9000000000000000000) (w : World) (h : Rg q xs b w) :
    Calls Tryz.prog 57 #[.pointer (some ⟨q, 0, none⟩), .int .i64 most] w fun e w' => e = .returned (.int .i64 (cntX xs b most).1) ∧ Rg q (cntX xs b most).2.1 (cntX xs b most).2.2 w' ∧ Kp (fun k => k ≠ q) w w' := by
  have H := hid h
  clear h
  have hmu : IntKind.u64.wrap (most : Int) = (most : Int) := by rw [wrap64u]; omega
  by_cases hb : b = true ∨ (getP xs).2 = 0
  · have hx : cntX xs b most = (0, [], true) := by
      rw [cntX, if_pos]; rcases hb with h | h
      · exact .inl h
      · exact .inr (.inl h)
    have hr : rdX xs b (getP xs).2 = ([], true) := by rw [rdX, if_pos hb]
    have HX := hid hx; have HR := hid hr; have HB := hid hb
    clear hx hr hb
    go_enter Tryz.func57, Tryz.ntmps57
    go_wp2_with fail
    refine (num_any q xs b _ H.out).mono ?_
    rintro e w1 ⟨he, h1, h2⟩
    rw [if_pos HB.out] at he
    subst he
    rw [HR.out] at h1
    have H1 := hid h1; have H2 := hid h2
    clear h1 h2
    go_wp2_with fail
    go_ret
    rw [HX.out]
    exact ⟨rfl, H1.out, H2.out⟩
  · obtain ⟨⟨u, n⟩, hg⟩ : ∃ g, getP xs = g := ⟨_, rfl⟩
    have hr : rdX xs b (getP xs).2 = (xs.drop n, false) := by rw [rdX, if_neg hb, hg]
    have hul := getP_lt xs
    rw [hg] at hul
    dsimp only at hul
    by_cases hu : most < u
    · have hx : cntX xs b most = (0, [], true) := by rw [cntX, if_pos (by rw [hg]; exact .inr (.inr hu))]
      have d1 : decide ((u : Int) > (most : Int)) = true := decide_eq_true (by omega)
      have HX := hid hx; have HR := hid hr; have HB := hid hb; have HG := hid hg
      clear hx hr hb hg
      go_enter Tryz.func57, Tryz.ntmps57
      go_wp2_with fail
      refine (num_any q xs b _ H.out).mono ?_
      rintro e w1 ⟨he, h1, h2⟩
      rw [if_neg HB.out, HG.out] at he
      rw [HR.out] at h1
      dsimp only at h1 he
      subst he
      obtain ⟨v, ty, hc, hf, hl⟩ := h1
      have c1 := blk_cell hc
      have f1 := blk_free hc
      have HC := hid hc; have H2 := hid h2
      clear hf hl hc h2
      go_wp2_with fail
      go_ret
      rw [HX.out]
      refine ⟨rfl, ⟨.slice none 0 0, ty, by rw [blk_set (blk_set HC.out 0 _) 1]; simp, rb_empty, by simp⟩, (H2.out.setOut (by simp) _).setOut (by simp) _⟩
    · have hx : cntX xs b most = (u, xs.drop n, false) := by
        rw [cntX, if_neg, hg]
        rw [hg]
        rintro (h | h | h)
        · exact hb (.inl h)
        · exact hb (.inr (by rw [hg]; exact h))
        · exact hu h
      have d1 : decide ((u : Int) > (most : Int)) = false := decide_eq_false (by omega)
      have hui : IntKind.i64.wrap (u : Int) = (u : Int) := IntWalk.i64_in _ (by omega)
      have HX := hid hx; have HR := hid hr; have HB := hid hb; have HG := hid hg
      clear hx hr hb hg
      go_enter Tryz.func57, Tryz.ntmps57
      go_wp2_with fail
      refine (num_any q xs b _ H.out).mono ?_
      rintro e w1 ⟨he, h1, h2⟩
      rw [if_neg HB.out, HG.out] at he
      rw [HR.out] at h1
      dsimp only at h1 he
      subst he
      have H1 := hid h1; have H2 := hid h2
      clear h1 h2
      go_wp2_with fail
      go_ret
      rw [HX.out]
      exact ⟨rfl, H1.out, H2.out⟩
set_option maxRecDepth 100000 in
theorem rend_any (q : Nat) (xs : By) (b : Bool) (w : World) (h : Rg q xs b w) :
    Calls Tryz.prog 58 #[.pointer (some ⟨q, 0, none⟩)] w fun e w' => e = .returned (.bool (!b && xs.length == 0)) ∧ w' = w := by
  obtain ⟨v, ty, hc, hf, hl⟩ := h
  obtain ⟨A, c, rfl, hcap, hS⟩ := rb_shape hf
  have c0 := blk_cell hc
  clear hf hS hc
  obtain ⟨m, hm⟩ : ∃ m, xs.length = m := ⟨_, rfl⟩
  rw [hm] at c0 ⊢
  cases b with
  | true =>
    go_enter Tryz.func58, Tryz.ntmps58
    go_wp2_with fail
    go_ret
    exact ⟨rfl, rfl⟩
  | false =>
    by_cases h0 : m = 0
    · have d0 : ((m : Int) == 0) = true := by simp [h0]
      go_enter Tryz.func58, Tryz.ntmps58
      go_wp2_with fail
      go_ret
      exact ⟨by simp [h0], rfl⟩
    · have d0 : ((m : Int) == 0) = false := by simp [h0]
      go_enter Tryz.func58, Tryz.ntmps58
      go_wp2_with fail
      go_ret
      exact ⟨by simp [h0], rfl⟩
end Go.Proofs.YtodledidabdkaaaGreatDoor

namespace Go.Proofs.YtodledidabdkaaaGreatDoor
open Go.RowKit
set_option linter.unusedVariables false
set_option linter.unusedSimpArgs false
abbrev Sx := By × Bool
def nV (s : Sx) : Nat := if s.2 = true ∨ (getP s.1).2 = 0 then 0 else (getP s.1).1
def iV (s : Sx) : Int := if s.2 = true ∨ (getP s.1).2 = 0 then 0 else zagP (getP s.1).1
def nX (s : Sx) : Sx := rdX s.1 s.2 (getP s.1).2
def tV (s : Sx) : ByteArray := if s.2 = true ∨ (getT s.1).2 = 0 then ⟨#[]⟩ else (getT s.1).1
def tX (s : Sx) : Sx := rdX s.1 s.2 (getT s.1).2
abbrev Rs (q : Nat) (s : Sx) (w : World) : Prop := Rg q s.1 s.2 w
theorem num_s (q : Nat) (s : Sx) (w : World) (h : Rs q s w) : Calls Tryz.prog 91 #[.pointer (some ⟨q, 0, none⟩)] w fun e w' => e = .returned (.int .u64 (nV s)) ∧ Rs q (nX s) w' ∧ Kp (fun k => k ≠ q) w w' := by
  refine (num_any q s.1 s.2 w h).mono ?_
  rintro e w' ⟨rfl, h1, h2⟩
  exact ⟨by rw [nV]; split <;> rfl, h1, h2⟩
theorem text_s (q : Nat) (s : Sx) (w : World) (h : Rs q s w) : Calls Tryz.prog 56 #[.pointer (some ⟨q, 0, none⟩)] w fun e w' => e = .returned (.string (tV s)) ∧ Rs q (tX s) w' ∧ Kp (fun k => k ≠ q) w w' := by
  refine (rtext_any q s.1 s.2 w h).mono ?_
  rintro e w' ⟨rfl, h1, h2⟩
  exact ⟨by rw [tV]; split <;> rfl, h1, h2⟩
def endP (s : Sx) : Bool := !s.2 && s.1.length == 0
theorem nV_lt (s : Sx) : nV s < 2 ^ 64 := by
  have := getP_lt s.1
  unfold nV
  split <;> omega
theorem len_rdX (xs : By) (b : Bool) (n : Nat) : (rdX xs b n).2 = true ∨ (rdX xs b n).1.length + n = xs.length ∧ 0 < n ∨ xs.length < n := by
  unfold rdX
  split
  · exact .inl rfl
  · by_cases h : n ≤ xs.length
    · refine .inr (.inl ⟨?_, by omega⟩)
      simp only [List.length_drop]; omega
    · exact .inr (.inr (by omega))
theorem tX_len (s : Sx) : (tX s).2 = true ∨ (tX s).1.length + 1 ≤ s.1.length := by
  have := getT_le s.1
  rcases len_rdX s.1 s.2 (getT s.1).2 with h | h | h
  · exact .inl h
  · refine .inr ?_
    unfold tX
    omega
  · omega
theorem rdX_le (xs : By) (b : Bool) (n : Nat) : (rdX xs b n).1.length ≤ xs.length := by
  unfold rdX
  split
  · simp
  · simp only [List.length_drop]; omega
theorem rdX_wrong (xs : By) (b : Bool) (n : Nat) (h : b = true) : (rdX xs b n).2 = true := by rw [rdX, if_pos (Or.inl h)]
theorem nV_enc (u : Nat) (hu : u < 2 ^ 64) (r : By) : nV (enc u ++ r, false) = u ∧ nX (enc u ++ r, false) = (r, false) := by
  have h := getP_enc u hu r
  have hn : ¬ (false = true ∨ beh u + 1 = 0) := by simp
  rw [nV, nX, rdX, h]
  simp only
  rw [if_neg hn, if_neg hn, drop_enc]
  exact ⟨rfl, rfl⟩
theorem iV_enc (n : Int) (h1 : -9223372036854775808 ≤ n) (h2 : n ≤ 9223372036854775807) (r : By) : iV (encZg n ++ r, false) = n ∧ nX (encZg n ++ r, false) = (r, false) := by
  have hz := zig_lt n h1 h2
  have h := getP_enc (zig n) hz r
  have hn : ¬ (false = true ∨ beh (zig n) + 1 = 0) := by simp
  refine ⟨?_, (nV_enc (zig n) hz r).2⟩
  rw [iV, encZg, h]
  simp only
  rw [if_neg hn, zag_zig n h1 h2]
theorem encText_pos (s : ByteArray) : (encText s).length ≠ 0 := by
  simp only [encText, List.length_append, enc_len]; omega
theorem tV_enc (t : ByteArray) (ht : t.size < 2 ^ 64) (r : By) : tV (encText t ++ r, false) = t ∧ tX (encText t ++ r, false) = (r, false) := by
  have h := getT_enc t r ht
  have hn : ¬ (false = true ∨ (encText t).length = 0) := by rintro (h | h); exact absurd h (by simp); exact encText_pos t h
  rw [tV, tX, rdX, h]
  simp only
  rw [if_neg hn, if_neg hn, List.drop_left]
  exact ⟨rfl, rfl⟩
end Go.Proofs.YtodledidabdkaaaGreatDoor

namespace Go.Proofs.YtodledidabdkaaaGreatDoor
open Go.RowKit V
set_option linter.unusedVariables false
set_option linter.unusedSimpArgs false
theorem own_foot2 {w : World} {base e n c : Nat} {A : Option Addr} {xs : List Value} (h : w.ownsRow base e 2 (.slice A n c) n xs) : Foot All (Sl A n c 2 xs) w := by
  intro u hu
  have h1 := own_kept h hu (fun _ _ => trivial)
  refine ⟨h1.1, ?_, fun h0 => ?_⟩
  · rcases h1.2 with ⟨e, e2⟩ | ⟨g, cap, cur, e, hb, hg, hnc, _⟩
    · injection e with e1 e3 e4; omega
    · injection e with e1 e3 e4; subst e4; exact hnc
  · rcases own_at h1 with ⟨_, e, _⟩ | ⟨g, cap, cur, e, hg, _, hat⟩
    · omega
    · injection e with e1 e3 e4
      exact ⟨g, 0, e1, fun j u hj => by rw [Nat.zero_add]; exact hat j u hj⟩
/-- a pair in bytes -/
def encPr (x : Slot) : By := encText x.1 ++ encText x.2
/-- a map's pairs in bytes -/
def encImg (l : List Slot) : By := enc l.length ++ l.flatMap encPr
theorem encPr_len (x : Slot) (h : x.1.size + x.2.size ≤ 1000000) : (encPr x).length ≤ 1000018 := by
  have h1 := encText_len x.1
  have h2 := encText_len x.2
  unfold encPr
  rw [List.length_append]; omega
theorem encPrs_len : ∀ (l : List Slot), (∀ x ∈ l, x.1.size + x.2.size ≤ 1000000) → (l.flatMap encPr).length ≤ l.length * 1000018
  | [], _ => by simp
  | x :: r, h => by
    have h1 := encPr_len x (h x (List.mem_cons_self ..))
    have h2 := encPrs_len r (fun y hy => h y (List.mem_cons_of_mem _ hy))
    rw [List.flatMap_cons, List.length_append, List.length_cons]; omega
end Go.Proofs.YtodledidabdkaaaGreatDoor

namespace Go.Proofs.YtodledidabdkaaaGreatDoor
open Go.RowKit V
set_option linter.unusedVariables false
set_option linter.unusedSimpArgs false
/-- is the last key not before this one? -/
def lastK (acc : List Slot) (k : Tx) : Bool := match acc.getLast? with
  | none => false
  | some p => !decide (bl p.1 < bl k)
/-- so many pairs, by keys -/
def imgGo : Nat → Sx → List Slot → Option (List Slot × Sx)
  | 0, s, acc => some (acc, s)
  | m + 1, s, acc => if s.2 = true then some (acc, s) else if lastK acc (tV s) = true then none else imgGo m (tX (tX s)) (acc ++ [(tV s, tV (tX s))])
def finI : Option (List Slot × Sx) → Option (List Slot)
  | none => none
  | some (l, s) => if endP s = true then some l else none
def readImg (b : By) : Option (List Slot) := finI (imgGo (cntX b false 2000).1 (cntX b false 2000).2 [])
theorem lastK_srt {acc : List Slot} {x : Slot} {l : List Slot} (h : Srt (acc ++ x :: l)) : lastK acc x.1 = false := by
  unfold lastK
  cases hp : acc.getLast? with
  | none => rfl
  | some p =>
    have hm : p ∈ acc := List.mem_of_getLast? hp
    have := (List.pairwise_append.1 h).2.2 p hm x (List.mem_cons_self ..)
    simp only [decide_eq_true this, Bool.not_true]
theorem imgGo_enc : ∀ (l acc : List Slot) (r : By), Srt (acc ++ l) → (∀ x ∈ l, x.1.size + x.2.size ≤ 1000000) → imgGo l.length (l.flatMap encPr ++ r, false) acc = some (acc ++ l, (r, false))
  | [], acc, r, _, _ => by simp [imgGo]
  | x :: l, acc, r, hs, hz => by
    have hx := hz x (List.mem_cons_self ..)
    obtain ⟨h1, h2⟩ := tV_enc x.1 (by omega) (encText x.2 ++ (l.flatMap encPr ++ r))
    obtain ⟨h3, h4⟩ := tV_enc x.2 (by omega) (l.flatMap encPr ++ r)
    have e : (x :: l).flatMap encPr ++ r = encText x.1 ++ (encText x.2 ++ (l.flatMap encPr ++ r)) := by
      rw [List.flatMap_cons, encPr]; simp only [List.append_assoc]
    rw [e, List.length_cons, imgGo, if_neg (by simp), h1, h2, h3, h4, lastK_srt hs, if_neg (by simp)]
    rw [imgGo_enc l (acc ++ [(x.1, x.2)]) r (by simpa using hs) (fun y hy => hz y (List.mem_cons_of_mem _ hy))]
    simp
theorem readImg_enc {l : List Slot} (hs : Srt l) (hl : l.length ≤ 2000) (hz : ∀ x ∈ l, x.1.size + x.2.size ≤ 1000000) : readImg (encImg l) = some l := by
  have hc : cntX (encImg l) false 2000 = (l.length, l.flatMap encPr, false) := by
    unfold encImg cntX
    rw [getP_enc l.length (by omega)]
    simp only
    rw [if_neg (by rintro (h | h | h) <;> first | cases h | omega), drop_enc]
  unfold readImg
  rw [hc]
  have := imgGo_enc l [] [] (by simpa using hs) hz
  rw [List.append_nil, List.nil_append] at this
  simp only [this]
  rfl
theorem tV_size (s : Sx) : (tV s).size ≤ s.1.length := by
  unfold tV
  split
  · exact Nat.zero_le _
  · unfold getT
    split
    · exact Nat.zero_le _
    · simp only [strOfB, ByteArray.size]
      simp
      omega
theorem tX_le (s : Sx) : (tX s).1.length ≤ s.1.length := rdX_le _ _ _
theorem cX_le (b : By) (k : Nat) : (cntX b false k).2.1.length ≤ b.length := by
  unfold cntX
  split
  · exact Nat.zero_le _
  · simp
theorem cX_cnt (b : By) (k : Nat) : (cntX b false k).1 ≤ k := by
  unfold cntX
  split
  · exact Nat.zero_le _
  · next h => simp only; omega
end Go.Proofs.YtodledidabdkaaaGreatDoor

namespace Go.Proofs.YtodledidabdkaaaGreatDoor
open Go.RowKit V
set_option linter.unusedVariables false
theorem enc_pre {u v : Nat} (hu : u < 2 ^ 64) (hv : v < 2 ^ 64) {r s : By} (h : enc u ++ r = enc v ++ s) : u = v ∧ r = s := by
  have h1 := getP_enc u hu r
  rw [h, getP_enc v hv s] at h1
  injection h1 with h1 _
  subst h1
  exact ⟨rfl, List.append_cancel_left h⟩
theorem encText_pre {a b : Tx} (ha : a.size < 2 ^ 64) (hb : b.size < 2 ^ 64) {r s : By} (h : encText a ++ r = encText b ++ s) : a = b ∧ r = s := by
  unfold encText at h
  rw [List.append_assoc, List.append_assoc] at h
  obtain ⟨h1, h2⟩ := enc_pre ha hb h
  have hl : a.data.toList.length = b.data.toList.length := by rw [Array.length_toList, Array.length_toList]; exact h1
  obtain ⟨h3, h4⟩ := List.append_inj h2 hl
  exact ⟨bl_inj h3, h4⟩
theorem encPrs_inj : ∀ {a b : List Slot}, a.length = b.length → (∀ x ∈ a, x.1.size + x.2.size ≤ 1000000) → (∀ x ∈ b, x.1.size + x.2.size ≤ 1000000) → a.flatMap encPr = b.flatMap encPr → a = b
  | [], [], _, _, _, _ => rfl
  | [], _ :: _, h, _, _, _ => by simp at h
  | _ :: _, [], h, _, _, _ => by simp at h
  | x :: a, y :: b, hl, ha, hb, h => by
    have hx := ha x (List.mem_cons_self ..)
    have hy := hb y (List.mem_cons_self ..)
    rw [List.flatMap_cons, List.flatMap_cons] at h
    unfold encPr at h
    rw [List.append_assoc, List.append_assoc] at h
    obtain ⟨h1, h2⟩ := encText_pre (by omega) (by omega) h
    obtain ⟨h3, h4⟩ := encText_pre (by omega) (by omega) h2
    have := encPrs_inj (by simpa using hl) (fun z hz => ha z (List.mem_cons_of_mem _ hz)) (fun z hz => hb z (List.mem_cons_of_mem _ hz)) h4
    rw [this, Prod.ext h1 h3]
theorem encImg_inj {a b : List Slot} (la : a.length < 2 ^ 64) (lb : b.length < 2 ^ 64) (ha : ∀ x ∈ a, x.1.size + x.2.size ≤ 1000000) (hb : ∀ x ∈ b, x.1.size + x.2.size ≤ 1000000) (h : encImg a = encImg b) : a = b := by
  obtain ⟨h1, h2⟩ := enc_pre la lb h
  exact encPrs_inj h1 ha hb h2
end Go.Proofs.YtodledidabdkaaaGreatDoor
