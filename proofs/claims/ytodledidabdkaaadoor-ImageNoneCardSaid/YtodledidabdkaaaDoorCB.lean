/- The codec's writers: behind, ones, put, Put, text, PutText, PutBool: walked once each. No condition but that the numbers are of their kinds, and the rows not great. -/
import Derived.Test.YtodledidabdkaaaDoorCA
import Derived.Test.YtodledidabdkaaaDoorIB
import Derived.Laws.BitsAllLaws
namespace Go.Proofs.YtodledidabdkaaaDoor
open Go.RowKit
set_option linter.unusedVariables false
set_option linter.unusedSimpArgs false
theorem len64_any (x : Int) (w : World) (h0 : 0 ≤ x) (h1 : x ≤ 18446744073709551615) :
    Calls Tryd.prog 77 #[.int .u64 x] w fun e w' => e = .returned (.int .i64 (Lib.bitLen x.toNat)) ∧ w' = w := Any.bits_Len64 Tryd.len64 x w h0 h1
set_option maxRecDepth 100000 in
theorem behind_any (u : Nat) (hu : u < 2 ^ 64) (w : World) :
    Calls Tryd.prog 78 #[.int .u64 u] w fun e w' => e = .returned (.int .i64 (beh u)) ∧ w = w' := by
  have hb := beh_bitLen u hu
  have hl : Lib.bitLen u ≤ 64 := Lib.bitLen_le u 64 (by omega) hu
  obtain ⟨L, hL⟩ : ∃ L, Lib.bitLen u = L := ⟨_, rfl⟩
  rw [hL] at hb hl
  have HU := hid hu
  have HLL := hid hL
  have hmx := @run_max2 Tryd.prog
  have hmn := @run_min2 Tryd.prog
  clear hu hL
  go_enter Tryd.func78, Tryd.ntmps78
  go_wp2_with fail
  refine (len64_any _ _ (by omega) (by have := HU.out; omega)).mono ?_
  rintro e w1 ⟨rfl, rfl⟩
  rw [show ((u : Int)).toNat = u from rfl, HLL.out]
  go_wp2_with fail
  go_ret
  refine ⟨?_, rfl⟩
  rfl
set_option maxRecDepth 100000 in
theorem ones_any (k : Nat) (hk : k ≤ 8) (w : World) :
    Calls Tryd.prog 79 #[.int .i64 k] w fun e w' => e = .returned (.int .u8 ((256 - 2 ^ (8 - k) : Nat) : Int)) ∧ w = w' := by
  obtain rfl | rfl | rfl | rfl | rfl | rfl | rfl | rfl | rfl : k = 0 ∨ k = 1 ∨ k = 2 ∨ k = 3 ∨ k = 4 ∨ k = 5 ∨ k = 6 ∨ k = 7 ∨ k = 8 := by omega
  all_goals
    go_enter Tryd.func79, Tryd.ntmps79
    go_wp2_with fail
    go_ret
    exact ⟨rfl, rfl⟩
theorem wrap64u (n : Int) : IntKind.u64.wrap n = n % 18446744073709551616 := by rfl
theorem zig_bits (n : Int) (h1 : -9223372036854775808 ≤ n) (h2 : n ≤ 9223372036854775807) : bits BinOp.or IntKind.u64 (IntKind.u64.wrap (IntKind.u64.wrap n * 2)) (IntKind.u64.wrap n / 9223372036854775808) = (zig n : Nat) := by
  unfold zig
  by_cases h : 0 ≤ n
  · have e1 : IntKind.u64.wrap n = n := by rw [wrap64u]; omega
    have e2 : IntKind.u64.wrap (n * 2) = n * 2 := by rw [wrap64u]; omega
    have e3 : n / 9223372036854775808 = 0 := by omega
    rw [e1, e2, e3, if_pos h]
    have : bits BinOp.or IntKind.u64 (n * 2) 0 = n * 2 := by
      rw [u64_or _ _ (by omega) (by omega) (by omega) (by omega)]
      simp
      omega
    rw [this]
    omega
  · have e1 : IntKind.u64.wrap n = n + 18446744073709551616 := by rw [wrap64u]; omega
    have e2 : IntKind.u64.wrap ((n + 18446744073709551616) * 2) = 2 * n + 18446744073709551616 := by rw [wrap64u]; omega
    have e3 : (n + 18446744073709551616) / 9223372036854775808 = 1 := by omega
    rw [e1, e2, e3, if_neg h]
    have : bits BinOp.or IntKind.u64 (2 * n + 18446744073709551616) 1 = 2 * n + 18446744073709551617 := by
      rw [u64_or _ _ (by omega) (by omega) (by omega) (by omega)]
      have h1 := Nat.two_pow_add_eq_or_of_lt (b := 1) (i := 1) (by omega) (n + 9223372036854775808).toNat
      have h2 : (2 * n + 18446744073709551616).toNat = 2 ^ 1 * (n + 9223372036854775808).toNat := by omega
      rw [h2, show (1 : Int).toNat = 1 from rfl, ← h1]
      omega
    rw [this]
    omega
set_option maxRecDepth 100000 in
theorem put0_any (base : Nat) (v : Value) (xs : By) (u : Nat) (hu : u < 2 ^ 64) (hn : xs.length ≤ 140737488300000) (w : World) (h : w.ownsRow base 5 1 v xs.length (u8s xs)) (hb : base ≤ w.heap.size) :
    Calls Tryd.prog 50 #[v, .int .u64 u] w fun e w' => (∃ v', e = .returned v' ∧ w'.ownsRow base 5 1 v' (xs ++ enc u).length (u8s (xs ++ enc u))) ∧ Kp (fun b => b < base) w w' := by
  obtain ⟨A, c, rfl⟩ := own_shape h
  obtain ⟨k, hk⟩ : ∃ k, beh u = k := ⟨_, rfl⟩
  have hk8 : k ≤ 8 := hk ▸ beh_le u
  have H := hid h
  have HU := hid hu
  have HN := hid hn
  have HK := hid hk
  have HB := hid hb
  clear h hu hn hk hb
  go_enter Tryd.func50, Tryd.ntmps50
  go_wp2_with fail
  refine (behind_any u HU.out _).mono ?_
  rintro e w1 ⟨rfl, rfl⟩
  rw [HK.out]
  go_wp2_with fail
  refine (ones_any k hk8 _).mono ?_
  rintro e w1 ⟨rfl, rfl⟩
  by_cases h8 : k < 8
  · have d8 : decide ((k : Int) < 8) = true := decide_eq_true (by omega)
    have HF := hid (first_eq u k HU.out HK.out h8)
    go_wp2_with (at_builtin; rw [HF.out]; go_loud (refine wpList_app el8 (H.out.alloc _) (sl_new1 _ _ _) (u8_one1 _ _) ?_ (Nat.le_trans HB.out (by simp)) rfl _ _ rfl rfl rfl ?_); (have := HN.out; omega); intro v' w2 hown2 hg2 hob2 hnil2; obtain ⟨A2, c2', rfl⟩ := own_shape hown2; have HOW := hid hown2; have HG2 := hid hg2; clear hown2 hg2 hob2 hnil2)
    have hsz2 : w.heap.size ≤ w2.heap.size := by have := HG2.out.size; simp at this; omega
    have hk2 : Kp (fun b => b < base) w w2 := ((Kp.refl _ w).alloc _).then (Kp.grown HG2.out) (fun i hi hS e => by
      have := (H.out.lt i e.symm).1
      omega)
    have hw2 : w2.ownsRow base 5 1 (.slice A2 (xs.length + 1) c2') (xs ++ [UInt8.ofNat (first u)]).length (u8s (xs ++ [UInt8.ofNat (first u)])) := by
      rw [u8s_append, List.length_append]
      have hf := first_lt u HU.out
      have e : u8s [UInt8.ofNat (first u)] = [.int .u8 (first u)] := by
        simp [u8s]; omega
      rw [e]
      exact HOW.out
    have HW2 := hid hw2
    have HK2 := hid hk2
    have henc : (xs ++ [UInt8.ofNat (first u)]) ++ tailb u k = xs ++ enc u := by rw [enc, HK.out]; simp
    have HE := hid henc
    clear hsz2 hk2 hw2 henc
    go_loopw [0, 5] (fun x i wr => ∃ (m : Nat) (cur : By), m ≤ k ∧ i = .int .i64 ((m : Int) - 1) ∧ Hid (cur ++ tailb u m = xs ++ enc u) ∧ Hid (wr.ownsRow base 5 1 x cur.length (u8s cur)) ∧ Hid (Kp (fun b => b < base) w wr)) (fun _ i _ => (intOf i + 1).toNat)
    case atStart => exact ⟨k, _, Nat.le_refl _, rfl, HE, HW2, HK2⟩
    case round =>
      obtain ⟨m, cur, hm, rfl, hcur, hown, hkp⟩ := hrel
      obtain ⟨A3, c3, rfl⟩ := own_shape hown.out
      match m, hm with
      | 0, _ =>
        have d0 : decide ((0 : Int) ≤ ((0 : Nat) : Int) - 1) = false := decide_eq_false (by omega)
        go_wp2_with fail
        have hc : cur = xs ++ enc u := by have := hcur.out; simpa [tailb] using this
        subst hc
        refine bodyPost_ret (v := .slice A3 (xs ++ enc u).length c3) (by simp [results, Tryd.results50, go_sem]) rfl ⟨⟨_, rfl, hown.out⟩, hkp.out⟩
      | m + 1, hm =>
        have d0 : decide ((0 : Int) ≤ ((m + 1 : Nat) : Int) - 1) = true := decide_eq_true (by omega)
        have hm7 : m ≤ 7 := by omega
        have em : (((m + 1 : Nat) : Int) - 1) = (m : Int) := by omega
        rw [em] at d0
        rw [em]
        have HT := hid (tail_eq u m)
        have hcl : cur.length ≤ xs.length + 9 := by
          have := congrArg List.length hcur.out
          have h9 := enc_len_le u
          simp only [List.length_append] at this
          omega
        have HCL := hid hcl
        clear hcl
        go_wp2_with (at_builtin; rw [HT.out]; go_loud (refine wpList_app el8 (hown.out.alloc _) (sl_new1 _ _ _) (u8_one1 _ _) ?_ (Nat.le_trans HB.out (by have := hkp.out.size; simp; omega)) rfl _ _ rfl rfl rfl ?_); (have := HN.out; have := HCL.out; omega); intro v' w4 hown4 hg4 hob4 hnil4; obtain ⟨A4, c4', rfl⟩ := own_shape hown4; have HOW4 := hid hown4; have HG4 := hid hg4; clear hown4 hg4 hob4 hnil4)
        refine ⟨⟨m, cur ++ [UInt8.ofNat (u / 256 ^ m)], by omega, by go_num, ?_, ?_, ?_⟩, by simp [intOf]⟩
        · have := hcur.out
          rw [tailb] at this
          exact hid (by rw [← this]; simp)
        · refine hid ?_
          rw [u8s_append, List.length_append]
          exact HOW4.out
        · exact hid ((hkp.out.alloc _).then (Kp.grown HG4.out) (fun i hi hS e => by
            have := (hown.out.lt i e.symm).1
            omega))
  · have d8 : decide ((k : Int) < 8) = false := decide_eq_false (by omega)
    have HF : Hid (((256 - 2 ^ (8 - k) : Nat) : Int) = ((first u : Nat) : Int)) := by
      refine hid ?_
      have hu := HU.out
      have : k = 8 := by omega
      subst this
      rw [first, HK.out]
      simp
      omega
    go_wp2_with (at_builtin; rw [HF.out]; go_loud (refine wpList_app el8 (H.out.alloc _) (sl_new1 _ _ _) (u8_one1 _ _) ?_ (Nat.le_trans HB.out (by simp)) rfl _ _ rfl rfl rfl ?_); (have := HN.out; omega); intro v' w2 hown2 hg2 hob2 hnil2; obtain ⟨A2, c2', rfl⟩ := own_shape hown2; have HOW := hid hown2; have HG2 := hid hg2; clear hown2 hg2 hob2 hnil2)
    have hsz2 : w.heap.size ≤ w2.heap.size := by have := HG2.out.size; simp at this; omega
    have hk2 : Kp (fun b => b < base) w w2 := ((Kp.refl _ w).alloc _).then (Kp.grown HG2.out) (fun i hi hS e => by
      have := (H.out.lt i e.symm).1
      omega)
    have hw2 : w2.ownsRow base 5 1 (.slice A2 (xs.length + 1) c2') (xs ++ [UInt8.ofNat (first u)]).length (u8s (xs ++ [UInt8.ofNat (first u)])) := by
      rw [u8s_append, List.length_append]
      have hf := first_lt u HU.out
      have e : u8s [UInt8.ofNat (first u)] = [.int .u8 (first u)] := by
        simp [u8s]; omega
      rw [e]
      exact HOW.out
    have HW2 := hid hw2
    have HK2 := hid hk2
    have henc : (xs ++ [UInt8.ofNat (first u)]) ++ tailb u k = xs ++ enc u := by rw [enc, HK.out]; simp
    have HE := hid henc
    clear hsz2 hk2 hw2 henc
    go_loopw [0, 5] (fun x i wr => ∃ (m : Nat) (cur : By), m ≤ k ∧ i = .int .i64 ((m : Int) - 1) ∧ Hid (cur ++ tailb u m = xs ++ enc u) ∧ Hid (wr.ownsRow base 5 1 x cur.length (u8s cur)) ∧ Hid (Kp (fun b => b < base) w wr)) (fun _ i _ => (intOf i + 1).toNat)
    case atStart => exact ⟨k, _, Nat.le_refl _, rfl, HE, HW2, HK2⟩
    case round =>
      obtain ⟨m, cur, hm, rfl, hcur, hown, hkp⟩ := hrel
      obtain ⟨A3, c3, rfl⟩ := own_shape hown.out
      match m, hm with
      | 0, _ =>
        have d0 : decide ((0 : Int) ≤ ((0 : Nat) : Int) - 1) = false := decide_eq_false (by omega)
        go_wp2_with fail
        have hc : cur = xs ++ enc u := by have := hcur.out; simpa [tailb] using this
        subst hc
        refine bodyPost_ret (v := .slice A3 (xs ++ enc u).length c3) (by simp [results, Tryd.results50, go_sem]) rfl ⟨⟨_, rfl, hown.out⟩, hkp.out⟩
      | m + 1, hm =>
        have d0 : decide ((0 : Int) ≤ ((m + 1 : Nat) : Int) - 1) = true := decide_eq_true (by omega)
        have hm7 : m ≤ 7 := by omega
        have em : (((m + 1 : Nat) : Int) - 1) = (m : Int) := by omega
        rw [em] at d0
        rw [em]
        have HT := hid (tail_eq u m)
        have hcl : cur.length ≤ xs.length + 9 := by
          have := congrArg List.length hcur.out
          have h9 := enc_len_le u
          simp only [List.length_append] at this
          omega
        have HCL := hid hcl
        clear hcl
        go_wp2_with (at_builtin; rw [HT.out]; go_loud (refine wpList_app el8 (hown.out.alloc _) (sl_new1 _ _ _) (u8_one1 _ _) ?_ (Nat.le_trans HB.out (by have := hkp.out.size; simp; omega)) rfl _ _ rfl rfl rfl ?_); (have := HN.out; have := HCL.out; omega); intro v' w4 hown4 hg4 hob4 hnil4; obtain ⟨A4, c4', rfl⟩ := own_shape hown4; have HOW4 := hid hown4; have HG4 := hid hg4; clear hown4 hg4 hob4 hnil4)
        refine ⟨⟨m, cur ++ [UInt8.ofNat (u / 256 ^ m)], by omega, by go_num, ?_, ?_, ?_⟩, by simp [intOf]⟩
        · have := hcur.out
          rw [tailb] at this
          exact hid (by rw [← this]; simp)
        · refine hid ?_
          rw [u8s_append, List.length_append]
          exact HOW4.out
        · exact hid ((hkp.out.alloc _).then (Kp.grown HG4.out) (fun i hi hS e => by
            have := (hown.out.lt i e.symm).1
            omega))
end Go.Proofs.YtodledidabdkaaaDoor
