/- The document's writers of the codec: Zig, more, Put, PutText, PutBool: walked once each. No condition but that the numbers are of their kinds, and the rows not great. The document's writers of the codec over rows: Put, PutText, PutBool: walked once each. No condition but that the numbers are of their kinds, and the rows not great. The document's PutText: walked once each. No condition but that the rows are not great. The document's Sum, low, of: walked once each. No condition but that the rows lie. The document's Get: walked once. No condition but that the row is not great. -/
import Derived.Test.YtbkhademplgicaaGreatDoorM1
import Derived.Test.YtbkhademplgicaaGreatDoorM15
import Derived.Test.YtbkhademplgicaaGreatDoorM16
set_option linter.unusedVariables false
set_option linter.unusedSimpArgs false
namespace Go.Proofs.YtbkhademplgicaaGreatDoor
open Go.RowKit
set_option linter.unusedVariables false
set_option linter.unusedSimpArgs false
theorem beh_ge (u : Nat) (h : beh u ≠ 0) : 2 ^ (7 * beh u) ≤ u := by
  unfold beh at h ⊢
  by_cases h1 : u < 128
  · simp [h1] at h
  by_cases h2 : u < 16384
  · simp only [h1, h2, if_true, if_false]; omega
  by_cases h3 : u < 2097152
  · simp only [h1, h2, h3, if_true, if_false]; omega
  by_cases h4 : u < 268435456
  · simp only [h1, h2, h3, h4, if_true, if_false]; omega
  by_cases h5 : u < 34359738368
  · simp only [h1, h2, h3, h4, h5, if_true, if_false]; omega
  by_cases h6 : u < 4398046511104
  · simp only [h1, h2, h3, h4, h5, h6, if_true, if_false]; omega
  by_cases h7 : u < 562949953421312
  · simp only [h1, h2, h3, h4, h5, h6, h7, if_true, if_false]; omega
  by_cases h8 : u < 72057594037927936
  · simp only [h1, h2, h3, h4, h5, h6, h7, h8, if_true, if_false]; omega
  simp only [h1, h2, h3, h4, h5, h6, h7, h8, if_false]
  omega
theorem beh_at (u k : Nat) (hk : k < 8) (h : k ≤ beh u) : (u < 2 ^ (7 * (k + 1)) → beh u = k) ∧ (¬ u < 2 ^ (7 * (k + 1)) → k + 1 ≤ beh u) := by
  refine ⟨fun h1 => ?_, fun h1 => ?_⟩
  · by_cases e : beh u = k
    · exact e
    · have h2 := beh_ge u (by omega)
      have h3 : 2 ^ (7 * (k + 1)) ≤ 2 ^ (7 * beh u) := Nat.pow_le_pow_right (by omega) (by omega)
      omega
  · by_cases e : beh u = k
    · have h2 := beh_lt u (by omega)
      rw [e] at h2
      exact absurd h2 h1
    · omega
theorem rzig_any (n : Int) (h1 : -9223372036854775808 ≤ n) (h2 : n ≤ 9223372036854775807) (w : World) :
    Calls Tryz.prog 36 #[.int .i64 n] w fun e w' => e = .returned (.int .u64 (zig n)) ∧ w = w' := by
  have e := zig_bits n h1 h2
  go_enter Tryz.func36, Tryz.ntmps36
  go_wp2
  go_ret
  exact ⟨rfl, rfl⟩
set_option maxRecDepth 100000 in
theorem rmore_any (u : Nat) (hu : u < 2 ^ 64) (w : World) :
    Calls Tryz.prog 81 #[.int .u64 u] w fun e w' => e = .returned (.int .i64 (beh u)) ∧ w = w' := by
  have HU := hid hu
  have h8 := beh_le u
  obtain ⟨q, hq⟩ : ∃ q, beh u = q := ⟨_, rfl⟩
  have HQ := hid hq
  rw [hq] at h8
  clear hu hq
  go_enter Tryz.func81, Tryz.ntmps81
  go_wp2_with fail
  go_loopw [3] (fun i wr => ∃ k : Nat, k ≤ q ∧ i = .int .i64 k ∧ w = wr) (fun i _ => 9 - (intOf i).toNat)
  case atStart => exact ⟨0, Nat.zero_le _, rfl, rfl⟩
  case round =>
    obtain ⟨k, hk, rfl, rfl⟩ := hrel
    by_cases hlt : k < 8
    · have hat := beh_at u k hlt (by rw [HQ.out]; exact hk)
      rw [HQ.out] at hat
      have HAT := hid hat
      clear hat
      obtain rfl | rfl | rfl | rfl | rfl | rfl | rfl | rfl : k = 0 ∨ k = 1 ∨ k = 2 ∨ k = 3 ∨ k = 4 ∨ k = 5 ∨ k = 6 ∨ k = 7 := by omega
      · by_cases hc : u < 128
        · have d : decide ((u : Int) < 128) = true := decide_eq_true (by omega)
          have hq := HAT.out.1 hc
          go_wp2_with fail
          go_ret
          rw [HQ.out, hq]
          exact ⟨rfl, rfl⟩
        · have d : decide ((u : Int) < 128) = false := decide_eq_false (by omega)
          have hq := HAT.out.2 hc
          go_wp2_with fail
          exact ⟨⟨1, hq, rfl, by first | rfl | trivial⟩, by simp [intOf]⟩
      · by_cases hc : u < 16384
        · have d : decide ((u : Int) < 16384) = true := decide_eq_true (by omega)
          have hq := HAT.out.1 hc
          go_wp2_with fail
          go_ret
          rw [HQ.out, hq]
          exact ⟨rfl, rfl⟩
        · have d : decide ((u : Int) < 16384) = false := decide_eq_false (by omega)
          have hq := HAT.out.2 hc
          go_wp2_with fail
          exact ⟨⟨2, hq, rfl, by first | rfl | trivial⟩, by simp [intOf]⟩
      · by_cases hc : u < 2097152
        · have d : decide ((u : Int) < 2097152) = true := decide_eq_true (by omega)
          have hq := HAT.out.1 hc
          go_wp2_with fail
          go_ret
          rw [HQ.out, hq]
          exact ⟨rfl, rfl⟩
        · have d : decide ((u : Int) < 2097152) = false := decide_eq_false (by omega)
          have hq := HAT.out.2 hc
          go_wp2_with fail
          exact ⟨⟨3, hq, rfl, by first | rfl | trivial⟩, by simp [intOf]⟩
      · by_cases hc : u < 268435456
        · have d : decide ((u : Int) < 268435456) = true := decide_eq_true (by omega)
          have hq := HAT.out.1 hc
          go_wp2_with fail
          go_ret
          rw [HQ.out, hq]
          exact ⟨rfl, rfl⟩
        · have d : decide ((u : Int) < 268435456) = false := decide_eq_false (by omega)
          have hq := HAT.out.2 hc
          go_wp2_with fail
          exact ⟨⟨4, hq, rfl, by first | rfl | trivial⟩, by simp [intOf]⟩
      · by_cases hc : u < 34359738368
        · have d : decide ((u : Int) < 34359738368) = true := decide_eq_true (by omega)
          have hq := HAT.out.1 hc
          go_wp2_with fail
          go_ret
          rw [HQ.out, hq]
          exact ⟨rfl, rfl⟩
        · have d : decide ((u : Int) < 34359738368) = false := decide_eq_false (by omega)
          have hq := HAT.out.2 hc
          go_wp2_with fail
          exact ⟨⟨5, hq, rfl, by first | rfl | trivial⟩, by simp [intOf]⟩
      · by_cases hc : u < 4398046511104
        · have d : decide ((u : Int) < 4398046511104) = true := decide_eq_true (by omega)
          have hq := HAT.out.1 hc
          go_wp2_with fail
          go_ret
          rw [HQ.out, hq]
          exact ⟨rfl, rfl⟩
        · have d : decide ((u : Int) < 4398046511104) = false := decide_eq_false (by omega)
          have hq := HAT.out.2 hc
          go_wp2_with fail
          exact ⟨⟨6, hq, rfl, by first | rfl | trivial⟩, by simp [intOf]⟩
      · by_cases hc : u < 562949953421312
        · have d : decide ((u : Int) < 562949953421312) = true := decide_eq_true (by omega)
          have hq := HAT.out.1 hc
          go_wp2_with fail
          go_ret
          rw [HQ.out, hq]
          exact ⟨rfl, rfl⟩
        · have d : decide ((u : Int) < 562949953421312) = false := decide_eq_false (by omega)
          have hq := HAT.out.2 hc
          go_wp2_with fail
          exact ⟨⟨7, hq, rfl, by first | rfl | trivial⟩, by simp [intOf]⟩
      · by_cases hc : u < 72057594037927936
        · have d : decide ((u : Int) < 72057594037927936) = true := decide_eq_true (by omega)
          have hq := HAT.out.1 hc
          go_wp2_with fail
          go_ret
          rw [HQ.out, hq]
          exact ⟨rfl, rfl⟩
        · have d : decide ((u : Int) < 72057594037927936) = false := decide_eq_false (by omega)
          have hq := HAT.out.2 hc
          go_wp2_with fail
          exact ⟨⟨8, hq, rfl, by first | rfl | trivial⟩, by simp [intOf]⟩
    · have hq8 : k = 8 := by omega
      subst hq8
      go_wp2_with fail
      go_ret
      have : q = 8 := by omega
      rw [HQ.out, this]
      exact ⟨rfl, rfl⟩
end Go.Proofs.YtbkhademplgicaaGreatDoor

namespace Go.Proofs.YtbkhademplgicaaGreatDoor
open Go.RowKit
set_option linter.unusedVariables false
set_option linter.unusedSimpArgs false
def onesv (i : Nat) : Int := ((256 - 2 ^ (8 - i) : Nat) : Int)
theorem onesv_step : ∀ i : Fin 8, bits BinOp.or IntKind.u8 (onesv i.val) (128 / 2 ^ i.val) = onesv (i.val + 1) := by decide +kernel
set_option maxRecDepth 100000 in
set_option maxHeartbeats 1000000 in
theorem rput_any (v : Value) (xs : By) (u : Nat) (hu : u < 2 ^ 64) (hn : xs.length ≤ 140737488300000) (w : World) (h : Rb v xs w) :
    Calls Tryz.prog 35 #[v, .int .u64 u] w (OutB w (xs ++ enc u)) := by
  obtain ⟨A, c, rfl, h⟩ := h
  obtain ⟨k, hk⟩ : ∃ k, beh u = k := ⟨_, rfl⟩
  have hk8 : k ≤ 8 := hk ▸ beh_le u
  have H := hid h
  have HU := hid hu
  have HN := hid hn
  have HK := hid hk
  clear h hu hn hk
  go_enter Tryz.func35, Tryz.ntmps35
  go_wp2_with (at_builtin; go_loud (refine wpList_app el8 (own_build0 (base := w.heap.size) (Nat.le_refl _)) (by have h := H.out; obtain ⟨h1, h2, h3⟩ := h; refine ⟨h1, h2, fun h => ?_⟩; obtain ⟨b, o, e, hr⟩ := h3 h; exact ⟨b, o, e, fun j z hz => (Kp.al w _).cell (hr j z hz) trivial⟩) (u8s_one xs) ?_ (by simp) rfl _ _ rfl rfl rfl ?_); (have := HN.out; omega); intro v' w2 hown2 hg2 hob2 hnil2; obtain ⟨A2, c2', rfl⟩ := own_shape hown2; rw [List.nil_append, Nat.zero_add] at hown2; have HOW := hid hown2; have HG2 := hid hg2; clear hown2 hg2 hob2 hnil2)
  refine (rmore_any u HU.out _).mono ?_
  rintro e w3 ⟨rfl, rfl⟩
  rw [HK.out]
  have hk0 : Kp All w w2 := ((Kp.refl All w).alloc (.cells #[] 5)).then (Kp.grown HG2.out) (fun i hi _ => by simp [Value.ownBlock]; omega)
  have HK0 := hid hk0
  clear hk0
  go_wp2_with fail
  go_loopw [7, 8] (fun o i wr => ∃ j : Nat, j ≤ k ∧ i = .int .i64 j ∧ o = .int .u8 (onesv j) ∧ w2 = wr) (fun _ i _ => k - (intOf i).toNat)
  case atStart => exact ⟨0, Nat.zero_le _, rfl, rfl, rfl⟩
  case round =>
    obtain ⟨j, hj, rfl, rfl, rfl⟩ := hrel
    by_cases hlt : j < k
    · have hb0 : decide ((j : Int) < (k : Int)) = true := decide_eq_true (by omega)
      have hw : IntKind.u64.wrap (j : Int) = j := by rw [wrap64u]; omega
      have hs := onesv_step ⟨j, by omega⟩
      simp only at hs
      go_wp2_with fail
      exact ⟨⟨j + 1, by omega, by go_num, by first | rfl | trivial, by first | rfl | trivial⟩, by simp [intOf]; omega⟩
    · have hb0 : decide ((j : Int) < (k : Int)) = false := decide_eq_false (by omega)
      obtain rfl : j = k := by omega
      by_cases h8 : j < 8
      · have d8 : decide ((j : Int) < 8) = true := decide_eq_true (by omega)
        have HF : Hid (bits .or .u8 (onesv j) ((u : Int) / 2 ^ (8 * j) % 256) = ((first u : Nat) : Int)) := hid (first_eq u j HU.out HK.out h8)
        have hwj : IntKind.u64.wrap (8 * (j : Int)) = 8 * (j : Int) := by rw [wrap64u]; omega
        go_wp2_with (at_builtin; rw [HF.out]; go_loud (refine wpList_app el8 (HOW.out.alloc _) (sl_new1 _ _ _) (u8_one1 _ _) ?_ (Nat.le_trans HK0.out.size (by simp)) rfl _ _ rfl rfl rfl ?_); (have := HN.out; omega); intro v' w4 hown4 hg4 hob4 hnil4; obtain ⟨A4, c4', rfl⟩ := own_shape hown4; have HOW4 := hid hown4; have HG4 := hid hg4; clear hown4 hg4 hob4 hnil4)
        have hk4 : Kp All w w4 := (HK0.out.alloc _).then (Kp.grown HG4.out) (fun i hi _ e => by
          have := (HOW.out.lt i e.symm).1
          omega)
        have hw4 : w4.ownsRow w.heap.size 5 1 (.slice A4 (xs.length + 1) c4') (xs ++ [UInt8.ofNat (first u)]).length (u8s (xs ++ [UInt8.ofNat (first u)])) := by
          rw [u8s_append, List.length_append]
          have hf := first_lt u HU.out
          have e : u8s [UInt8.ofNat (first u)] = [.int .u8 (first u)] := by
            simp [u8s]; omega
          rw [e]
          exact HOW4.out
        have HW4 := hid hw4
        have HK4 := hid hk4
        have henc : (xs ++ [UInt8.ofNat (first u)]) ++ tailb u j = xs ++ enc u := by rw [enc, HK.out]; simp
        have HE := hid henc
        clear hk4 hw4 henc
        go_loopw [5, 9] (fun x i wr => ∃ (m : Nat) (cur : By), m ≤ j ∧ i = .int .i64 ((m : Int) - 1) ∧ Hid (cur ++ tailb u m = xs ++ enc u) ∧ Hid (wr.ownsRow w.heap.size 5 1 x cur.length (u8s cur)) ∧ Hid (Kp All w wr)) (fun _ i _ => (intOf i + 1).toNat)
        case atStart => exact ⟨j, _, Nat.le_refl _, rfl, HE, HW4, HK4⟩
        case round =>
          obtain ⟨m, cur, hm, rfl, hcur, hown, hkp⟩ := hrel
          obtain ⟨A3, c3, rfl⟩ := own_shape hown.out
          match m, hm with
          | 0, _ =>
            have d0 : decide ((0 : Int) ≤ ((0 : Nat) : Int) - 1) = false := decide_eq_false (by omega)
            go_wp2_with fail
            have hc : cur = xs ++ enc u := by have := hcur.out; simpa [tailb] using this
            subst hc
            refine bodyPost_ret (v := .slice A3 (xs ++ enc u).length c3) (by simp [results, Tryz.results35, go_sem]) rfl ⟨⟨_, rfl, hown.out⟩, hkp.out⟩
          | m + 1, hm =>
            have d0 : decide ((0 : Int) ≤ ((m + 1 : Nat) : Int) - 1) = true := decide_eq_true (by omega)
            have hm7 : m ≤ 7 := by omega
            have em : (((m + 1 : Nat) : Int) - 1) = (m : Int) := by omega
            rw [em] at d0
            rw [em]
            have HT := hid (tail_eq u m)
            have hwm : IntKind.u64.wrap (8 * (m : Int)) = 8 * (m : Int) := by rw [wrap64u]; omega
            have hcl : cur.length ≤ xs.length + 9 := by
              have := congrArg List.length hcur.out
              have h9 := enc_len_le u
              simp only [List.length_append] at this
              omega
            have HCL := hid hcl
            clear hcl
            go_wp2_with (at_builtin; rw [HT.out]; go_loud (refine wpList_app el8 (hown.out.alloc _) (sl_new1 _ _ _) (u8_one1 _ _) ?_ (Nat.le_trans hkp.out.size (by simp)) rfl _ _ rfl rfl rfl ?_); (have := HN.out; have := HCL.out; omega); intro v' w5 hown5 hg5 hob5 hnil5; obtain ⟨A5, c5', rfl⟩ := own_shape hown5; have HOW5 := hid hown5; have HG5 := hid hg5; clear hown5 hg5 hob5 hnil5)
            refine ⟨⟨m, cur ++ [UInt8.ofNat (u / 256 ^ m)], by omega, by go_num, ?_, ?_, ?_⟩, by simp [intOf]⟩
            · have := hcur.out
              rw [tailb] at this
              exact hid (by rw [← this]; simp)
            · refine hid ?_
              rw [u8s_append, List.length_append]
              exact HOW5.out
            · exact hid ((hkp.out.alloc _).then (Kp.grown HG5.out) (fun i hi hS e => by
                have := (hown.out.lt i e.symm).1
                omega))
      · have d8 : decide ((j : Int) < 8) = false := decide_eq_false (by omega)
        have HF : Hid (onesv j = ((first u : Nat) : Int)) := by
          refine hid ?_
          have hu := HU.out
          have : j = 8 := by omega
          subst this
          rw [first, HK.out]
          simp [onesv]
          omega
        go_wp2_with (at_builtin; rw [HF.out]; go_loud (refine wpList_app el8 (HOW.out.alloc _) (sl_new1 _ _ _) (u8_one1 _ _) ?_ (Nat.le_trans HK0.out.size (by simp)) rfl _ _ rfl rfl rfl ?_); (have := HN.out; omega); intro v' w4 hown4 hg4 hob4 hnil4; obtain ⟨A4, c4', rfl⟩ := own_shape hown4; have HOW4 := hid hown4; have HG4 := hid hg4; clear hown4 hg4 hob4 hnil4)
        have hk4 : Kp All w w4 := (HK0.out.alloc _).then (Kp.grown HG4.out) (fun i hi _ e => by
          have := (HOW.out.lt i e.symm).1
          omega)
        have hw4 : w4.ownsRow w.heap.size 5 1 (.slice A4 (xs.length + 1) c4') (xs ++ [UInt8.ofNat (first u)]).length (u8s (xs ++ [UInt8.ofNat (first u)])) := by
          rw [u8s_append, List.length_append]
          have hf := first_lt u HU.out
          have e : u8s [UInt8.ofNat (first u)] = [.int .u8 (first u)] := by
            simp [u8s]; omega
          rw [e]
          exact HOW4.out
        have HW4 := hid hw4
        have HK4 := hid hk4
        have henc : (xs ++ [UInt8.ofNat (first u)]) ++ tailb u j = xs ++ enc u := by rw [enc, HK.out]; simp
        have HE := hid henc
        clear hk4 hw4 henc
        go_loopw [5, 9] (fun x i wr => ∃ (m : Nat) (cur : By), m ≤ j ∧ i = .int .i64 ((m : Int) - 1) ∧ Hid (cur ++ tailb u m = xs ++ enc u) ∧ Hid (wr.ownsRow w.heap.size 5 1 x cur.length (u8s cur)) ∧ Hid (Kp All w wr)) (fun _ i _ => (intOf i + 1).toNat)
        case atStart => exact ⟨j, _, Nat.le_refl _, rfl, HE, HW4, HK4⟩
        case round =>
          obtain ⟨m, cur, hm, rfl, hcur, hown, hkp⟩ := hrel
          obtain ⟨A3, c3, rfl⟩ := own_shape hown.out
          match m, hm with
          | 0, _ =>
            have d0 : decide ((0 : Int) ≤ ((0 : Nat) : Int) - 1) = false := decide_eq_false (by omega)
            go_wp2_with fail
            have hc : cur = xs ++ enc u := by have := hcur.out; simpa [tailb] using this
            subst hc
            refine bodyPost_ret (v := .slice A3 (xs ++ enc u).length c3) (by simp [results, Tryz.results35, go_sem]) rfl ⟨⟨_, rfl, hown.out⟩, hkp.out⟩
          | m + 1, hm =>
            have d0 : decide ((0 : Int) ≤ ((m + 1 : Nat) : Int) - 1) = true := decide_eq_true (by omega)
            have hm7 : m ≤ 7 := by omega
            have em : (((m + 1 : Nat) : Int) - 1) = (m : Int) := by omega
            rw [em] at d0
            rw [em]
            have HT := hid (tail_eq u m)
            have hwm : IntKind.u64.wrap (8 * (m : Int)) = 8 * (m : Int) := by rw [wrap64u]; omega
            have hcl : cur.length ≤ xs.length + 9 := by
              have := congrArg List.length hcur.out
              have h9 := enc_len_le u
              simp only [List.length_append] at this
              omega
            have HCL := hid hcl
            clear hcl
            go_wp2_with (at_builtin; rw [HT.out]; go_loud (refine wpList_app el8 (hown.out.alloc _) (sl_new1 _ _ _) (u8_one1 _ _) ?_ (Nat.le_trans hkp.out.size (by simp)) rfl _ _ rfl rfl rfl ?_); (have := HN.out; have := HCL.out; omega); intro v' w5 hown5 hg5 hob5 hnil5; obtain ⟨A5, c5', rfl⟩ := own_shape hown5; have HOW5 := hid hown5; have HG5 := hid hg5; clear hown5 hg5 hob5 hnil5)
            refine ⟨⟨m, cur ++ [UInt8.ofNat (u / 256 ^ m)], by omega, by go_num, ?_, ?_, ?_⟩, by simp [intOf]⟩
            · have := hcur.out
              rw [tailb] at this
              exact hid (by rw [← this]; simp)
            · refine hid ?_
              rw [u8s_append, List.length_append]
              exact HOW5.out
            · exact hid ((hkp.out.alloc _).then (Kp.grown HG5.out) (fun i hi hS e => by
                have := (hown.out.lt i e.symm).1
                omega))
end Go.Proofs.YtbkhademplgicaaGreatDoor

namespace Go.Proofs.YtbkhademplgicaaGreatDoor
open Go.RowKit
set_option linter.unusedVariables false
set_option linter.unusedSimpArgs false
theorem sl_alloc {A : Option Addr} {n c sz : Nat} {xs : List Value} {w : World} (h : Sl A n c sz xs w) (o : Obj) : Sl A n c sz xs (w.alloc o) := by
  obtain ⟨h1, h2, h3⟩ := h
  refine ⟨h1, h2, fun h => ?_⟩
  obtain ⟨b, o, e, hr⟩ := h3 h
  exact ⟨b, o, e, fun j z hz => (Kp.al w _).cell (hr j z hz) trivial⟩
set_option maxRecDepth 100000 in
theorem rputtext_any (v : Value) (xs : By) (s : ByteArray) (hn : xs.length + s.size ≤ 140737488200000) (w : World) (h : Rb v xs w) :
    Calls Tryz.prog 122 #[v, .string s] w (OutB w (xs ++ encText s)) := by
  have H := hid h
  have hu : IntKind.u64.wrap (s.size : Int) = s.size := by rw [wrap64u]; omega
  have HN := hid hn
  clear h hn
  go_enter Tryz.func122, Tryz.ntmps122
  go_wp2_with fail
  refine (rput_any v xs s.size (by have := HN.out; omega) (by have := HN.out; omega) w H.out).mono ?_
  rintro e w3 ⟨⟨v3, rfl, h3⟩, k3⟩
  obtain ⟨A3, c3, rfl⟩ := own_shape h3
  have hl : (xs ++ enc s.size).length ≤ xs.length + 9 := by have := enc_len_le s.size; simp; omega
  obtain ⟨n3, hn3⟩ : ∃ n3, (xs ++ enc s.size).length = n3 := ⟨_, rfl⟩
  rw [hn3] at h3 hl
  rw [hn3]
  have H3 := hid h3
  have HN3 := hid hn3
  clear hn3
  have K3 := hid k3
  have HL := hid hl
  clear h3 k3 hl
  obtain ⟨i, hi, hz, hs, hby⟩ := info_parts el8.info
  go_wp2_with (at_builtin; go_loud (refine Lib.wpList_append_own_string _ rfl _ _ 25 9 rfl w.heap.size 5 i Tryz.underlying25 Tryz.underlying9 hi hz hs hby _ _ _ rfl H3.out s rfl ?_ ?_ K3.out.size ?_); (have h1 := HN.out; have h2 := HL.out; have h3 := max63; omega); (have h1 := HN.out; have h2 := HL.out; omega); intro v' w4 hown4 hg4 hnil4; obtain ⟨A4, c4', rfl⟩ := own_shape hown4; have HOW4 := hid hown4; have HG4 := hid hg4; clear hown4 hg4 hnil4)
  go_ret
  refine ⟨⟨_, rfl, ?_⟩, K3.out.then (Kp.grown HG4.out) (fun i hi hS e => by have := (H3.out.lt i e.symm).1; omega)⟩
  have := HOW4.out
  rw [strCells_u8s, ← u8s_append, List.append_assoc] at this
  have e : (xs ++ encText s).length = (xs ++ enc s.size).length + s.size := by
    simp [encText]
    omega
  rw [e, HN3.out]
  exact this
end Go.Proofs.YtbkhademplgicaaGreatDoor

namespace Go.Proofs.YtbkhademplgicaaGreatDoor
open Go.RowKit
set_option linter.unusedVariables false
set_option linter.unusedSimpArgs false
/-- The document's step of the sum. -/
def dstep (c y : Nat) : Nat := (c / 2) ^^^ (if (c ^^^ y) % 2 = 1 then 2197175160 else 0)
theorem dstep_lt {c y : Nat} (h : c < 2 ^ 32) : dstep c y < 2 ^ 32 := by
  unfold dstep
  refine Nat.xor_lt_two_pow (by omega) ?_
  split <;> omega
theorem dstep_eq (c y : Nat) : dstep c y ^^^ (y / 2) = cstep (c ^^^ y) := by
  unfold dstep cstep
  rw [xor_half, Nat.xor_assoc, Nat.xor_assoc]
  congr 1
  rw [Nat.xor_comm]
theorem csteps_d {j C d x : Nat} (h : csteps j C = d ^^^ (x / 2 ^ j)) : csteps (j + 1) C = dstep d (x / 2 ^ j) ^^^ (x / 2 ^ (j + 1)) := by
  rw [csteps_succ, h, ← dstep_eq, Nat.pow_succ, Nat.div_div_eq_div_mul]
set_option maxRecDepth 100000 in
set_option maxHeartbeats 1000000 in
theorem rsum_any (A : Option Addr) (n c : Nat) (xs : By) (hn : xs.length = n) (hl : n ≤ 9000000000000000000) (w : World) (h : Sl A n c 1 (u8s xs) w) :
    Calls Tryz.prog 37 #[.slice A n c] w fun e w' => e = .returned (.int .u32 (crcB xs)) ∧ w = w' := by
  have H := hid h; have HN := hid hn
  clear h hn
  go_enter Tryz.func37, Tryz.ntmps37
  go_wp2_with fail
  go_loop [3, 10] (fun s i => ∃ k C : Nat, k ≤ n ∧ i = .int .i64 k ∧ s = .int .u32 C ∧ C < 2 ^ 32 ∧ Hid (C = cfold 4294967295 (xs.take k))) (fun _ i => n - (intOf i).toNat)
  case atStart => exact ⟨0, 4294967295, Nat.zero_le _, rfl, rfl, by omega, by simp [cfold, Hid]⟩
  case round =>
    obtain ⟨k, C, hk, rfl, rfl, hC, hCk⟩ := hrel
    by_cases hlt : k < n
    · have hb0 : decide ((k : Int) < (n : Int)) = true := decide_eq_true (by omega)
      obtain ⟨x, hx⟩ : ∃ x, xs[k]? = some x := ⟨_, List.getElem?_eq_getElem (by rw [HN.out]; exact hlt)⟩
      obtain ⟨b, o, rfl, hc⟩ := sl_u8 H.out hx
      have i0 : (0 : Int) ≤ (k : Int) := by omega
      have i1 : (k : Int) < (n : Int) := by omega
      have HX := hid hx
      clear hx
      go_wp2_with fail
      go_loop [3, 6] (fun s i => ∃ j d : Nat, j ≤ 8 ∧ i = .int .i64 j ∧ s = .int .u32 d ∧ d < 2 ^ 32 ∧ Hid (csteps j (C ^^^ x.toNat) = d ^^^ (x.toNat / 2 ^ j))) (fun _ i => 8 - (intOf i).toNat)
      case atStart => exact ⟨0, C, Nat.zero_le _, rfl, rfl, hC, hid (by simp [csteps])⟩
      case round =>
        obtain ⟨j, d, hj, rfl, rfl, hd, hdj⟩ := hrel
        by_cases hlt8 : j < 8
        · have hb1 : decide ((j : Int) < 8) = true := decide_eq_true (by omega)
          have HDJ := hid (csteps_d hdj.out)
          have hst9 := dstep_lt (y := x.toNat / 2 ^ j) hd
          have hxl := x.toNat_lt
          obtain ⟨y, hy⟩ : ∃ y, x.toNat / 2 ^ j = y := ⟨_, rfl⟩
          have hy8 : y < 256 := by rw [← hy]; exact Nat.lt_of_le_of_lt (Nat.div_le_self _ _) hxl
          have hx1 : ((x.toNat : Nat) : Int) / 2 ^ j % 4294967296 = (y : Int) := by
            have : ((x.toNat : Nat) : Int) / 2 ^ j = (y : Int) := by rw [← hy]; push_cast; rfl
            rw [this]; omega
          have hbt : bits .and .u32 (bits .xor .u32 (d : Int) (((x.toNat : Nat) : Int) / 2 ^ j % 4294967296)) 1 = (((d ^^^ y) % 2 : Nat) : Int) := by
            rw [hx1, u32_xor_nat d y hd (by omega), show (1 : Int) = ((1 : Nat) : Int) from rfl, u32_and_nat _ _ (Nat.xor_lt_two_pow (n := 32) hd (by omega)) (by omega), Nat.and_one_is_mod]
          rw [hy] at hst9
          have HY := hid hy; have HST := hid hst9
          by_cases hbit : (d ^^^ y) % 2 = 1
          · have hb2 : (bits .and .u32 (bits .xor .u32 (d : Int) (((x.toNat : Nat) : Int) / 2 ^ j % 4294967296)) 1 == 1) = true := by rw [hbt, hbit]; rfl
            have hxr : bits .xor .u32 ((d : Int) / 2) 2197175160 = ((dstep d y : Nat) : Int) := by
              rw [show (d : Int) / 2 = ((d / 2 : Nat) : Int) by omega, show (2197175160 : Int) = ((2197175160 : Nat) : Int) from rfl, u32_xor_nat _ _ (by omega) (by omega), dstep, if_pos hbit]
            have HXR := hid hxr
            clear hy hx1 hbt hbit hxl hst9 hxr
            go_wp2_with fail
            rw [HXR.out]
            exact ⟨⟨j + 1, dstep d y, by omega, by go_num, rfl, HST.out, by rw [HDJ.out, HY.out]; exact hid rfl⟩, by simp [intOf]; omega⟩
          · have hb2 : (bits .and .u32 (bits .xor .u32 (d : Int) (((x.toNat : Nat) : Int) / 2 ^ j % 4294967296)) 1 == 1) = false := by
              rw [hbt, show (d ^^^ y) % 2 = 0 by omega]; rfl
            have hxr : ((d : Int) / 2) = ((dstep d y : Nat) : Int) := by
              rw [show (d : Int) / 2 = ((d / 2 : Nat) : Int) by omega, dstep, if_neg hbit, Nat.xor_zero]
            have HXR := hid hxr
            clear hy hx1 hbt hbit hxl hst9 hxr
            go_wp2_with fail
            rw [HXR.out]
            exact ⟨⟨j + 1, dstep d y, by omega, by go_num, rfl, HST.out, by rw [HDJ.out, HY.out]; exact hid rfl⟩, by simp [intOf]; omega⟩
        · have hb1 : decide ((j : Int) < 8) = false := decide_eq_false (by omega)
          obtain rfl : j = 8 := by omega
          go_wp2_with fail
          refine ⟨⟨k + 1, d, by omega, by go_num, rfl, hd, ?_⟩, by simp [intOf]; omega⟩
          rw [cfold_take HX.out, ← hCk.out, cbyte, hdj.out]
          have hxl := x.toNat_lt
          rw [Nat.div_eq_of_lt (by omega), Nat.xor_zero]
          exact hid rfl
    · have hb0 : decide ((k : Int) < (n : Int)) = false := decide_eq_false (by omega)
      obtain rfl : k = n := by omega
      have hcm := hCk.out
      rw [List.take_of_length_le (by rw [HN.out]; exact Nat.le_refl _)] at hcm
      go_wp2_with fail
      go_ret
      refine ⟨?_, rfl⟩
      have hst := u32_xor_nat (cfold 4294967295 xs) 4294967295 (cfold_lt (by omega)) (by omega)
      exact congrArg (fun z => Ending.returned (Value.int .u32 z)) hst
theorem or_shift64 (u x k : Nat) (hu : u < 256 ^ k) (hx : x < 256) (hk : k < 8) : bits .or .u64 (u : Int) (IntKind.u64.wrap ((x : Int) * 2 ^ (8 * k))) = ((u + x * 256 ^ k : Nat) : Int) := by
  have e1 : (256 : Nat) ^ k = 2 ^ (8 * k) := by rw [show (256 : Nat) = 2 ^ 8 from rfl, ← Nat.pow_mul]
  have h1 : x * 256 ^ k < 256 ^ (k + 1) := by
    rw [Nat.pow_succ, Nat.mul_comm]
    exact Nat.mul_lt_mul_of_pos_left hx (Nat.pow_pos (by omega))
  have h2 : (256 : Nat) ^ (k + 1) ≤ 256 ^ 8 := Nat.pow_le_pow_right (by omega) (by omega)
  have e3 : (256 : Nat) ^ 8 = 18446744073709551616 := by decide
  have e2 : IntKind.u64.wrap ((x : Int) * 2 ^ (8 * k)) = ((x * 256 ^ k : Nat) : Int) := by
    show ((x : Int) * 2 ^ (8 * k)) % 18446744073709551616 = _
    rw [e1]
    have : ((x : Int) * 2 ^ (8 * k)) = ((x * 2 ^ (8 * k) : Nat) : Int) := by push_cast; rfl
    rw [this]
    rw [← e1]
    omega
  have h3 : (256 : Nat) ^ k ≤ 256 ^ 8 := Nat.pow_le_pow_right (by omega) (by omega)
  rw [e2, u64_or_nat _ _ (by omega) (by omega)]
  have h4 := Nat.two_pow_add_eq_or_of_lt (i := 8 * k) (b := u) (by rw [← e1]; exact hu) x
  rw [← e1] at h4
  congr 1
  rw [Nat.or_comm, Nat.mul_comm x, ← h4]
  omega
set_option maxRecDepth 100000 in
set_option maxHeartbeats 1000000 in
theorem rof_any (A : Option Addr) (n c : Nat) (xs : By) (hn : xs.length = n) (hl : n ≤ 4) (w : World) (h : Sl A n c 1 (u8s xs) w) :
    Calls Tryz.prog 88 #[.slice A n c] w fun e w' => e = .returned (.int .u64 (of xs)) ∧ w = w' := by
  have H := hid h; have HN := hid hn
  clear h hn
  go_enter Tryz.func88, Tryz.ntmps88
  go_wp2_with fail
  go_loop [3, 8] (fun s i => ∃ k C : Nat, k ≤ n ∧ i = .int .i64 k ∧ s = .int .u64 C ∧ C < 256 ^ k ∧ Hid (C = of (xs.take k))) (fun _ i => n - (intOf i).toNat)
  case atStart => exact ⟨0, 0, Nat.zero_le _, rfl, rfl, by omega, by simp [of, Hid]⟩
  case round =>
    obtain ⟨k, C, hk, rfl, rfl, hC, hCk⟩ := hrel
    by_cases hlt : k < n
    · have hb0 : decide ((k : Int) < (n : Int)) = true := decide_eq_true (by omega)
      obtain ⟨x, hx⟩ : ∃ x, xs[k]? = some x := ⟨_, List.getElem?_eq_getElem (by rw [HN.out]; exact hlt)⟩
      obtain ⟨b, o, rfl, hc⟩ := sl_u8 H.out hx
      have hxl := x.toNat_lt
      have hxm : ((x.toNat : Nat) : Int) % 18446744073709551616 = ((x.toNat : Nat) : Int) := by omega
      have hor := or_shift64 C x.toNat k hC hxl (by omega)
      have h8 : IntKind.i64.wrap (8 * (k : Int)) = 8 * (k : Int) := IntWalk.i64_in _ (by omega)
      have i0 : (0 : Int) ≤ (k : Int) := by omega
      have i1 : (k : Int) < (n : Int) := by omega
      have HX := hid hx; have HOR := hid hor
      clear hx hxl hor
      go_wp2_with fail
      rw [HOR.out]
      have hC2 : C + x.toNat * 256 ^ k < 256 ^ (k + 1) := by
        have hxl := x.toNat_lt
        have := Nat.mul_le_mul_right (256 ^ k) (show x.toNat ≤ 255 by omega)
        rw [Nat.pow_succ]
        omega
      exact ⟨⟨k + 1, C + x.toNat * 256 ^ k, by omega, by go_num, rfl, hC2, by rw [of_take HX.out, ← hCk.out]; exact hid rfl⟩, by simp [intOf]; omega⟩
    · have hb0 : decide ((k : Int) < (n : Int)) = false := decide_eq_false (by omega)
      obtain rfl : k = n := by omega
      have hcm := hCk.out
      rw [List.take_of_length_le (by rw [HN.out]; exact Nat.le_refl _)] at hcm
      go_wp2_with fail
      go_ret
      exact ⟨by first | rfl | (rw [hcm]; rfl), rfl⟩
theorem le_succ (u k : Nat) : le u (k + 1) = le u k ++ [UInt8.ofNat (u / 256 ^ k)] := by
  induction k generalizing u with
  | zero => simp [le]
  | succ k ih =>
    rw [le, ih (u / 256), le, Nat.div_div_eq_div_mul, Nat.pow_succ, Nat.mul_comm 256]
    rfl
set_option maxRecDepth 100000 in
set_option maxHeartbeats 1000000 in
theorem rlow_any (u n : Nat) (hu : u < 2 ^ 64) (hn : n ≤ 4) (w : World) :
    Calls Tryz.prog 82 #[.int .u64 u, .int .i64 n] w (OutB w (le u n)) := by
  go_enter Tryz.func82, Tryz.ntmps82
  go_wp2_with fail
  go_loopw [5, 6] (fun v i wr => ∃ k : Nat, k ≤ n ∧ i = .int .i64 k ∧ Hid (wr.ownsRow w.heap.size 5 1 v k (u8s (le u k))) ∧ Hid (Kp All w wr)) (fun _ i _ => n - (intOf i).toNat)
  case atStart => exact ⟨0, Nat.zero_le _, rfl, hid (World.ownsRow_nil _ _ _ _), hid (Kp.refl _ _)⟩
  case round =>
    obtain ⟨k, hk, rfl, hO, hK⟩ := hrel
    obtain ⟨A5, c5, rfl⟩ := own_shape hO.out
    by_cases hlt : k < n
    · have hb0 : decide ((k : Int) < (n : Int)) = true := decide_eq_true (by omega)
      have h8 : IntKind.i64.wrap (8 * (k : Int)) = 8 * (k : Int) := IntWalk.i64_in _ (by omega)
      obtain ⟨y, hy⟩ : ∃ y, UInt8.ofNat (u / 256 ^ k) = y := ⟨_, rfl⟩
      have hev : (u : Int) / 2 ^ (8 * k) % 256 = ((y.toNat : Nat) : Int) := by
        rw [← hy, UInt8.toNat_ofNat', show (256 : Nat) ^ k = 2 ^ (8 * k) by rw [show (256 : Nat) = 2 ^ 8 from rfl, ← Nat.pow_mul]]
        push_cast; rfl
      have HLE := hid (show le u (k + 1) = le u k ++ [y] by rw [le_succ, hy])
      have HEV := hid hev
      clear hy hev
      go_wp2_with (at_builtin; rw [HEV.out]; go_loud (refine wpList_app el8 (hO.out.alloc _) (sl_new1 _ _ _) (u8_one1 _ _) ?_ (Nat.le_trans hK.out.size (by simp)) rfl _ _ rfl rfl rfl ?_); omega; intro v' w4 hown4 hg4 hob4 hnil4; obtain ⟨A4, c4', rfl⟩ := own_shape hown4; have HOW4 := hid hown4; have HG4 := hid hg4; clear hown4 hg4 hob4 hnil4)
      refine ⟨⟨k + 1, by omega, by go_num, ?_, ?_⟩, by simp [intOf]; omega⟩
      · have h5 := HOW4.out
        rw [HLE.out, u8s_append]
        exact hid h5
      · exact hid ((hK.out.alloc _).then (Kp.grown HG4.out) (fun i hi _ e => by
          have := (hO.out.lt i e.symm).1
          omega))
    · have hb0 : decide ((k : Int) < (n : Int)) = false := decide_eq_false (by omega)
      obtain rfl : k = n := by omega
      go_wp2_with fail
      go_ret
      exact ⟨⟨_, rfl, by rw [le_len]; exact hO.out⟩, hK.out⟩
end Go.Proofs.YtbkhademplgicaaGreatDoor

namespace Go.Proofs.YtbkhademplgicaaGreatDoor
open Go.RowKit
set_option linter.unusedVariables false
set_option linter.unusedSimpArgs false
theorem rget_bit : ∀ x : Fin 256, ∀ k : Fin 8, k.val ≤ lead x.val → ((x.val / 2 ^ (7 - k.val)) % 2 = 1 ↔ k.val < lead x.val) := by decide +kernel
theorem rget_low : ∀ x : Fin 256, lead x.val < 7 → (x.val &&& (127 / 2 ^ lead x.val)) = x.val % 2 ^ (8 - lead x.val) := by decide +kernel
theorem rget_no : ∀ x : Fin 256, 7 ≤ lead x.val → x.val % 2 ^ (8 - lead x.val) = 0 := by decide +kernel
theorem u8_and1 (y : Nat) (hy : y < 256) : bits .and .u8 (y : Int) 1 = ((y % 2 : Nat) : Int) := by
  rw [show (1 : Int) = ((1 : Nat) : Int) from rfl, u8_and_nat _ _ hy (by omega), Nat.and_one_is_mod]
set_option maxRecDepth 100000 in
set_option maxHeartbeats 2000000 in
theorem rget_any (v : Value) (xs : By) (w : World) (h : Foot All (Rb v xs) w) (hl : xs.length ≤ 9000000000000000000) :
    Calls Tryz.prog 198 #[v] w fun e w' => e = .returned (.tuple #[.int .u64 ((getP xs).1 : Nat), .int .i64 ((getP xs).2 : Nat)]) ∧ Kp All w w' := by
  obtain ⟨A, c, rfl, _⟩ := h.now
  have H := hid (show Foot All (Sl A xs.length c 1 (u8s xs)) w from h.imp fun u hu => by
    obtain ⟨A', c', e, hs⟩ := hu
    injection e with e1 _ e2; subst e1 e2; exact hs)
  clear h
  cases xs with
  | nil =>
    go_enter Tryz.func198, Tryz.ntmps198
    go_wp2_with fail
    exact bodyPost_ret (v := .tuple #[.int .u64 0, .int .i64 0]) (by simp [results, Tryz.results198, go_sem]) rfl ⟨rfl, Kp.refl _ _⟩
  | cons x r =>
    obtain ⟨n, hn⟩ : ∃ n, (x :: r).length = n := ⟨_, rfl⟩
    have hrn : r.length + 1 = n := hn
    rw [hn] at hl ⊢
    obtain ⟨hc1, hc2, h3⟩ := H.out.now
    rw [hn] at hc2
    obtain ⟨b, o, eA, hr⟩ := h3 (by omega)
    subst eA
    have hx := x.toNat_lt
    have hat : ∀ j y, (x :: r)[j]? = some y → w.cell? ⟨b, o + j, none⟩ = some (.int .u8 y.toNat) := fun j y hj => hr j _ (by rw [u8s, List.getElem?_map, hj]; rfl)
    have p0 : w.cell? ⟨b, o, none⟩ = some (.int .u8 x.toNat) := hat 0 x rfl
    obtain ⟨k, hk⟩ : ∃ k, lead x.toNat = k := ⟨_, rfl⟩
    obtain ⟨hk8, hv, hand⟩ := lead_facts ⟨x.toNat, hx⟩
    simp only [hk] at hk8 hv hand
    have HN := hid hn; have HV := hid hv; have HK := hid hk; have HAT := hid hat; have HRN := hid hrn
    have HBT := hid (fun (j : Nat) (hj : j < 8) (hjk : j ≤ k) => rget_bit ⟨x.toNat, hx⟩ ⟨j, hj⟩ (by simp only [hk]; exact hjk))
    have HLO := hid (fun (h : k < 7) => rget_low ⟨x.toNat, hx⟩ (by simp only [hk]; exact h))
    have HNO := hid (fun (h : 7 ≤ k) => rget_no ⟨x.toNat, hx⟩ (by simp only [hk]; exact h))
    simp only [hk] at HBT HLO HNO
    have z0 : (0 : Int) < (n : Int) := by omega
    have dn : ((n : Int) == 0) = false := by simp; omega
    clear hn hand hv hk hat hr hc1 h3 hrn
    go_enter Tryz.func198, Tryz.ntmps198
    go_wp2_with fail
    go_loop [4] (fun i => ∃ j : Nat, j ≤ k ∧ i = .int .i64 j) (fun i => k - (intOf i).toNat)
    case atStart => exact ⟨0, Nat.zero_le _, rfl⟩
    case round =>
      obtain ⟨j, hj, rfl⟩ := hrel
      by_cases hj8 : j < 8
      case neg =>
        obtain rfl : k = j := by omega
        have d8 : decide ((k : Int) < 8) = false := decide_eq_false (by omega)
        have HR0 := HRN.out
        by_cases hnk : n ≤ k
        · have d1 : decide ((n : Int) < (k : Int) + 1) = true := decide_eq_true (by omega)
          go_wp2_with fail
          have hg : getP (x :: r) = (0, 0) := by rw [getP, HK.out, if_pos (by omega)]
          exact bodyPost_ret (v := .tuple #[.int .u64 0, .int .i64 0]) (by simp [results, Tryz.results198, go_sem]) rfl ⟨by rw [hg]; rfl, Kp.refl _ _⟩
        have d1 : decide ((n : Int) < (k : Int) + 1) = false := decide_eq_false (by omega)
        obtain ⟨v0, hv0⟩ : ∃ v0, x.toNat % 2 ^ (8 - k) = v0 := ⟨_, rfl⟩
        have hvb : v0 < 2 ^ (7 - k) := by rw [← hv0]; exact HV.out
        have HVB := hid hvb; have HV0 := hid hv0
        have HR := hid (show k ≤ r.length by omega)
        have d7 : decide ((k : Int) < 7) = false := decide_eq_false (by omega)
        have HU0 := hid (show v0 = 0 by rw [← hv0]; exact HNO.out (by omega))
        clear hvb hv0 HR0
        go_wp2_with fail
        go_loopw [5, 6] (fun u i wr => ∃ q j : Nat, q = j + 1 ∧ j ≤ k ∧ i = .int .i64 (q : Int) ∧ u = .int .u64 ((getFold v0 (r.take j) : Nat) : Int) ∧ Hid (Kp All w wr)) (fun _ i _ => k + 1 - (intOf i).toNat)
        case atStart => exact ⟨1, 0, rfl, Nat.zero_le _, rfl, by first | (rw [HU0.out]; simp [getFold]) | simp [getFold, HU0.out], hid (Kp.refl _ _)⟩
        case round =>
          obtain ⟨q, j, hq, hj, rfl, rfl, hkp⟩ := hrel
          by_cases hlt : j < k
          · have hb0 : decide ((q : Int) ≤ (k : Int)) = true := decide_eq_true (by omega)
            have hb9 : decide (q ≤ k) = true := decide_eq_true (by omega)
            obtain ⟨y, hy⟩ : ∃ y, r[j]? = some y := ⟨_, List.getElem?_eq_getElem (by have := HR.out; omega)⟩
            have q0 := hkp.out.cell (HAT.out q y (by rw [hq]; simpa using hy)) trivial
            have j0 : (0 : Int) ≤ (q : Int) := by omega
            have j1 : (q : Int) < (n : Int) := by omega
            have hfl := getFold_lt (r.take j) HVB.out
            have hub : getFold v0 (r.take j) * 256 < 2 ^ 64 := by
              have h1 : getFold v0 (r.take j) * 256 < 2 ^ (7 - k + 8 * (r.take j).length) * 2 ^ 8 := Nat.mul_lt_mul_of_pos_right hfl (by omega)
              rw [← Nat.pow_add] at h1
              have h2 : (r.take j).length ≤ j := by rw [List.length_take]; omega
              exact Nat.lt_of_lt_of_le h1 (Nat.pow_le_pow_right (by omega) (by omega))
            have HOR := hid (or_byte _ y hub)
            have HTK := hid (getFold_take (v := v0) hy)
            have HOQ := hid (or_byte' _ y hub)
            obtain ⟨uj, huj⟩ : ∃ uj, getFold v0 (r.take j) = uj := ⟨_, rfl⟩
            rw [huj] at HOR HTK HOQ ⊢
            have HQ := hid hq
            clear hfl hub huj hy hq
            go_wp2_with fail
            have hy8 := y.toNat_lt
            have ew : IntKind.u64.wrap (y.toNat : Int) = (y.toNat : Int) := by
              show (y.toNat : Int) % 18446744073709551616 = _
              omega
            have hq := HQ.out
            refine ⟨⟨q + 1, j + 1, by omega, by omega, by go_num, by first | (rw [ew, HOR.out, HTK.out]) | (rw [HOQ.out, HTK.out]) | (rw [HOR.out, HTK.out]), hkp⟩, by simp [intOf]; omega⟩
          · have hb0 : decide ((q : Int) ≤ (k : Int)) = false := decide_eq_false (by omega)
            have hb9 : decide (q ≤ k) = false := decide_eq_false (by omega)
            obtain rfl : j = k := by omega
            obtain ⟨uj, huj⟩ : ∃ uj, getFold v0 (r.take j) = uj := ⟨_, rfl⟩
            have hul : uj < 2 ^ 64 := by
              have h1 := getFold_lt (r.take j) HVB.out
              have h2 : (r.take j).length ≤ j := by rw [List.length_take]; omega
              rw [huj] at h1
              exact Nat.lt_of_lt_of_le h1 (Nat.pow_le_pow_right (by omega) (by omega))
            have HUJ := hid huj
            rw [huj]
            clear huj
            go_wp2_with fail
            refine (rmore_any uj hul _).mono ?_
            rintro e w3 ⟨rfl, rfl⟩
            by_cases hbe : beh uj = j
            · have hg : getP (x :: r) = (uj, j + 1) := by
                rw [getP, HK.out, if_neg (by have := HR.out; omega), HV0.out, HUJ.out, if_pos hbe]
              rw [hbe]
              have HG := hid hg
              clear hg
              go_wp2_with fail
              exact bodyPost_ret (v := .tuple #[.int .u64 uj, .int .i64 ((j : Int) + 1)]) (by simp [results, Tryz.results198, go_sem]) rfl ⟨by rw [HG.out]; rfl, hkp.out⟩
            · have hg : getP (x :: r) = (0, 0) := by
                rw [getP, HK.out, if_neg (by have := HR.out; omega), HV0.out, HUJ.out, if_neg hbe]
              have hne : (((beh uj : Nat) : Int) != (j : Int)) = true := by simp; omega
              have HG := hid hg
              clear hg
              go_wp2_with fail
              exact bodyPost_ret (v := .tuple #[.int .u64 0, .int .i64 0]) (by simp [results, Tryz.results198, go_sem]) rfl ⟨by rw [HG.out]; rfl, hkp.out⟩
      have d8 : decide ((j : Int) < 8) = true := decide_eq_true (by omega)
      have hbt := HBT.out j hj8 hj
      obtain ⟨y, hy⟩ : ∃ y, x.toNat / 2 ^ (7 - j) = y := ⟨_, rfl⟩
      rw [hy] at hbt
      have hy8 : y < 256 := by rw [← hy]; exact Nat.lt_of_le_of_lt (Nat.div_le_self _ _) hx
      have e7 : IntKind.u64.wrap (7 - (j : Int)) = ((7 - j : Nat) : Int) := by rw [wrap64u]; omega
      have e8 : IntKind.i64.wrap (7 - (j : Int)) = ((7 - j : Nat) : Int) := by rw [IntKind.wrap_i64]; omega
      have hyy : ((x.toNat : Nat) : Int) / 2 ^ (7 - j) = (y : Int) := by rw [← hy]; push_cast; rfl
      have hand := u8_and1 y hy8
      by_cases hjk : j < k
      · have hb2 : (bits .and .u8 (((x.toNat : Nat) : Int) / 2 ^ (7 - j)) 1 == 1) = true := by rw [hyy, hand, hbt.2 hjk]; rfl
        clear hbt hand hy hyy
        go_wp2_with fail
        exact ⟨⟨j + 1, by omega, by go_num⟩, by simp [intOf]; omega⟩
      have hb2 : (bits .and .u8 (((x.toNat : Nat) : Int) / 2 ^ (7 - j)) 1 == 1) = false := by
        have : ¬ y % 2 = 1 := fun h => hjk (hbt.1 h)
        rw [hyy, hand, show y % 2 = 0 by omega]; rfl
      clear hbt hand hy hyy
      obtain rfl : k = j := by omega
      by_cases h77 : k < 7
      · have HR0 := HRN.out
        by_cases hnk : n ≤ k
        · have d1 : decide ((n : Int) < (k : Int) + 1) = true := decide_eq_true (by omega)
          go_wp2_with fail
          have hg : getP (x :: r) = (0, 0) := by rw [getP, HK.out, if_pos (by omega)]
          exact bodyPost_ret (v := .tuple #[.int .u64 0, .int .i64 0]) (by simp [results, Tryz.results198, go_sem]) rfl ⟨by rw [hg]; rfl, Kp.refl _ _⟩
        have d1 : decide ((n : Int) < (k : Int) + 1) = false := decide_eq_false (by omega)
        obtain ⟨v0, hv0⟩ : ∃ v0, x.toNat % 2 ^ (8 - k) = v0 := ⟨_, rfl⟩
        have hvb : v0 < 2 ^ (7 - k) := by rw [← hv0]; exact HV.out
        have HVB := hid hvb; have HV0 := hid hv0
        have HR := hid (show k ≤ r.length by omega)
        have d7 : decide ((k : Int) < 7) = true := decide_eq_true (by omega)
        have hlo := HLO.out (by omega)
        have hv0l : v0 < 256 := by rw [← hv0]; exact Nat.lt_of_le_of_lt (Nat.mod_le _ _) hx
        have hkk : IntKind.u64.wrap (k : Int) = (k : Int) := by rw [wrap64u]; omega
        have HU0 : Hid (IntKind.u64.wrap (bits BinOp.and IntKind.u8 ((x.toNat : Nat) : Int) (127 / 2 ^ k)) = (v0 : Nat)) := hid (by
          have e1 : (127 : Int) / 2 ^ k = ((127 / 2 ^ k : Nat) : Int) := by push_cast; rfl
          rw [e1, u8_and_nat _ _ hx (Nat.lt_of_le_of_lt (Nat.div_le_self _ _) (by omega)), hlo, hv0]
          show ((v0 : Int)) % 18446744073709551616 = _
          omega)
        clear hlo hvb hv0 HR0 hv0l
        go_wp2_with fail
        go_loopw [5, 6] (fun u i wr => ∃ q j : Nat, q = j + 1 ∧ j ≤ k ∧ i = .int .i64 (q : Int) ∧ u = .int .u64 ((getFold v0 (r.take j) : Nat) : Int) ∧ Hid (Kp All w wr)) (fun _ i _ => k + 1 - (intOf i).toNat)
        case atStart => exact ⟨1, 0, rfl, Nat.zero_le _, rfl, by first | (rw [HU0.out]; simp [getFold]) | simp [getFold, HU0.out], hid (Kp.refl _ _)⟩
        case round =>
          obtain ⟨q, j, hq, hj, rfl, rfl, hkp⟩ := hrel
          by_cases hlt : j < k
          · have hb0 : decide ((q : Int) ≤ (k : Int)) = true := decide_eq_true (by omega)
            have hb9 : decide (q ≤ k) = true := decide_eq_true (by omega)
            obtain ⟨y, hy⟩ : ∃ y, r[j]? = some y := ⟨_, List.getElem?_eq_getElem (by have := HR.out; omega)⟩
            have q0 := hkp.out.cell (HAT.out q y (by rw [hq]; simpa using hy)) trivial
            have j0 : (0 : Int) ≤ (q : Int) := by omega
            have j1 : (q : Int) < (n : Int) := by omega
            have hfl := getFold_lt (r.take j) HVB.out
            have hub : getFold v0 (r.take j) * 256 < 2 ^ 64 := by
              have h1 : getFold v0 (r.take j) * 256 < 2 ^ (7 - k + 8 * (r.take j).length) * 2 ^ 8 := Nat.mul_lt_mul_of_pos_right hfl (by omega)
              rw [← Nat.pow_add] at h1
              have h2 : (r.take j).length ≤ j := by rw [List.length_take]; omega
              exact Nat.lt_of_lt_of_le h1 (Nat.pow_le_pow_right (by omega) (by omega))
            have HOR := hid (or_byte _ y hub)
            have HTK := hid (getFold_take (v := v0) hy)
            have HOQ := hid (or_byte' _ y hub)
            obtain ⟨uj, huj⟩ : ∃ uj, getFold v0 (r.take j) = uj := ⟨_, rfl⟩
            rw [huj] at HOR HTK HOQ ⊢
            have HQ := hid hq
            clear hfl hub huj hy hq
            go_wp2_with fail
            have hy8 := y.toNat_lt
            have ew : IntKind.u64.wrap (y.toNat : Int) = (y.toNat : Int) := by
              show (y.toNat : Int) % 18446744073709551616 = _
              omega
            have hq := HQ.out
            refine ⟨⟨q + 1, j + 1, by omega, by omega, by go_num, by first | (rw [ew, HOR.out, HTK.out]) | (rw [HOQ.out, HTK.out]) | (rw [HOR.out, HTK.out]), hkp⟩, by simp [intOf]; omega⟩
          · have hb0 : decide ((q : Int) ≤ (k : Int)) = false := decide_eq_false (by omega)
            have hb9 : decide (q ≤ k) = false := decide_eq_false (by omega)
            obtain rfl : j = k := by omega
            obtain ⟨uj, huj⟩ : ∃ uj, getFold v0 (r.take j) = uj := ⟨_, rfl⟩
            have hul : uj < 2 ^ 64 := by
              have h1 := getFold_lt (r.take j) HVB.out
              have h2 : (r.take j).length ≤ j := by rw [List.length_take]; omega
              rw [huj] at h1
              exact Nat.lt_of_lt_of_le h1 (Nat.pow_le_pow_right (by omega) (by omega))
            have HUJ := hid huj
            rw [huj]
            clear huj
            go_wp2_with fail
            refine (rmore_any uj hul _).mono ?_
            rintro e w3 ⟨rfl, rfl⟩
            by_cases hbe : beh uj = j
            · have hg : getP (x :: r) = (uj, j + 1) := by
                rw [getP, HK.out, if_neg (by have := HR.out; omega), HV0.out, HUJ.out, if_pos hbe]
              rw [hbe]
              have HG := hid hg
              clear hg
              go_wp2_with fail
              exact bodyPost_ret (v := .tuple #[.int .u64 uj, .int .i64 ((j : Int) + 1)]) (by simp [results, Tryz.results198, go_sem]) rfl ⟨by rw [HG.out]; rfl, hkp.out⟩
            · have hg : getP (x :: r) = (0, 0) := by
                rw [getP, HK.out, if_neg (by have := HR.out; omega), HV0.out, HUJ.out, if_neg hbe]
              have hne : (((beh uj : Nat) : Int) != (j : Int)) = true := by simp; omega
              have HG := hid hg
              clear hg
              go_wp2_with fail
              exact bodyPost_ret (v := .tuple #[.int .u64 0, .int .i64 0]) (by simp [results, Tryz.results198, go_sem]) rfl ⟨by rw [HG.out]; rfl, hkp.out⟩
      · have HR0 := HRN.out
        by_cases hnk : n ≤ k
        · have d1 : decide ((n : Int) < (k : Int) + 1) = true := decide_eq_true (by omega)
          go_wp2_with fail
          have hg : getP (x :: r) = (0, 0) := by rw [getP, HK.out, if_pos (by omega)]
          exact bodyPost_ret (v := .tuple #[.int .u64 0, .int .i64 0]) (by simp [results, Tryz.results198, go_sem]) rfl ⟨by rw [hg]; rfl, Kp.refl _ _⟩
        have d1 : decide ((n : Int) < (k : Int) + 1) = false := decide_eq_false (by omega)
        obtain ⟨v0, hv0⟩ : ∃ v0, x.toNat % 2 ^ (8 - k) = v0 := ⟨_, rfl⟩
        have hvb : v0 < 2 ^ (7 - k) := by rw [← hv0]; exact HV.out
        have HVB := hid hvb; have HV0 := hid hv0
        have HR := hid (show k ≤ r.length by omega)
        have d7 : decide ((k : Int) < 7) = false := decide_eq_false (by omega)
        have HU0 := hid (show v0 = 0 by rw [← hv0]; exact HNO.out (by omega))
        clear hvb hv0 HR0
        go_wp2_with fail
        go_loopw [5, 6] (fun u i wr => ∃ q j : Nat, q = j + 1 ∧ j ≤ k ∧ i = .int .i64 (q : Int) ∧ u = .int .u64 ((getFold v0 (r.take j) : Nat) : Int) ∧ Hid (Kp All w wr)) (fun _ i _ => k + 1 - (intOf i).toNat)
        case atStart => exact ⟨1, 0, rfl, Nat.zero_le _, rfl, by first | (rw [HU0.out]; simp [getFold]) | simp [getFold, HU0.out], hid (Kp.refl _ _)⟩
        case round =>
          obtain ⟨q, j, hq, hj, rfl, rfl, hkp⟩ := hrel
          by_cases hlt : j < k
          · have hb0 : decide ((q : Int) ≤ (k : Int)) = true := decide_eq_true (by omega)
            have hb9 : decide (q ≤ k) = true := decide_eq_true (by omega)
            obtain ⟨y, hy⟩ : ∃ y, r[j]? = some y := ⟨_, List.getElem?_eq_getElem (by have := HR.out; omega)⟩
            have q0 := hkp.out.cell (HAT.out q y (by rw [hq]; simpa using hy)) trivial
            have j0 : (0 : Int) ≤ (q : Int) := by omega
            have j1 : (q : Int) < (n : Int) := by omega
            have hfl := getFold_lt (r.take j) HVB.out
            have hub : getFold v0 (r.take j) * 256 < 2 ^ 64 := by
              have h1 : getFold v0 (r.take j) * 256 < 2 ^ (7 - k + 8 * (r.take j).length) * 2 ^ 8 := Nat.mul_lt_mul_of_pos_right hfl (by omega)
              rw [← Nat.pow_add] at h1
              have h2 : (r.take j).length ≤ j := by rw [List.length_take]; omega
              exact Nat.lt_of_lt_of_le h1 (Nat.pow_le_pow_right (by omega) (by omega))
            have HOR := hid (or_byte _ y hub)
            have HTK := hid (getFold_take (v := v0) hy)
            have HOQ := hid (or_byte' _ y hub)
            obtain ⟨uj, huj⟩ : ∃ uj, getFold v0 (r.take j) = uj := ⟨_, rfl⟩
            rw [huj] at HOR HTK HOQ ⊢
            have HQ := hid hq
            clear hfl hub huj hy hq
            go_wp2_with fail
            have hy8 := y.toNat_lt
            have ew : IntKind.u64.wrap (y.toNat : Int) = (y.toNat : Int) := by
              show (y.toNat : Int) % 18446744073709551616 = _
              omega
            have hq := HQ.out
            refine ⟨⟨q + 1, j + 1, by omega, by omega, by go_num, by first | (rw [ew, HOR.out, HTK.out]) | (rw [HOQ.out, HTK.out]) | (rw [HOR.out, HTK.out]), hkp⟩, by simp [intOf]; omega⟩
          · have hb0 : decide ((q : Int) ≤ (k : Int)) = false := decide_eq_false (by omega)
            have hb9 : decide (q ≤ k) = false := decide_eq_false (by omega)
            obtain rfl : j = k := by omega
            obtain ⟨uj, huj⟩ : ∃ uj, getFold v0 (r.take j) = uj := ⟨_, rfl⟩
            have hul : uj < 2 ^ 64 := by
              have h1 := getFold_lt (r.take j) HVB.out
              have h2 : (r.take j).length ≤ j := by rw [List.length_take]; omega
              rw [huj] at h1
              exact Nat.lt_of_lt_of_le h1 (Nat.pow_le_pow_right (by omega) (by omega))
            have HUJ := hid huj
            rw [huj]
            clear huj
            go_wp2_with fail
            refine (rmore_any uj hul _).mono ?_
            rintro e w3 ⟨rfl, rfl⟩
            by_cases hbe : beh uj = j
            · have hg : getP (x :: r) = (uj, j + 1) := by
                rw [getP, HK.out, if_neg (by have := HR.out; omega), HV0.out, HUJ.out, if_pos hbe]
              rw [hbe]
              have HG := hid hg
              clear hg
              go_wp2_with fail
              exact bodyPost_ret (v := .tuple #[.int .u64 uj, .int .i64 ((j : Int) + 1)]) (by simp [results, Tryz.results198, go_sem]) rfl ⟨by rw [HG.out]; rfl, hkp.out⟩
            · have hg : getP (x :: r) = (0, 0) := by
                rw [getP, HK.out, if_neg (by have := HR.out; omega), HV0.out, HUJ.out, if_neg hbe]
              have hne : (((beh uj : Nat) : Int) != (j : Int)) = true := by simp; omega
              have HG := hid hg
              clear hg
              go_wp2_with fail
              exact bodyPost_ret (v := .tuple #[.int .u64 0, .int .i64 0]) (by simp [results, Tryz.results198, go_sem]) rfl ⟨by rw [HG.out]; rfl, hkp.out⟩
end Go.Proofs.YtbkhademplgicaaGreatDoor
