/- The document's writers of the codec: Zig, more, Put, PutText, PutBool: walked once each. No condition but that the numbers are of their kinds, and the rows not great. The document's writers of the codec over rows: Put, PutText, PutBool: walked once each. No condition but that the numbers are of their kinds, and the rows not great. The document's PutText: walked once each. No condition but that the rows are not great. -/
import Derived.Test.YtodledidabdkaaaGreatDoorM9
set_option linter.unusedVariables false
set_option linter.unusedSimpArgs false
namespace Go.Proofs.YtodledidabdkaaaGreatDoor
open Go.RowKit
set_option linter.unusedVariables false
set_option linter.unusedSimpArgs false
theorem beh_ge (u : Nat) (h : beh u ≠ 0) : 2 ^ (7 * beh u) ≤ u := by
  unfold beh at h ⊢
  by_cases h1 : u < 128
  · simp [h1] at h
  by_cases h2 : u < 16384
  · simp only [h1, h2, if_true, if_false]; omega
  by_cases h3 : u < 2097152
  · simp only [h1, h2, h3, if_true, if_false]; omega
  by_cases h4 : u < 268435456
  · simp only [h1, h2, h3, h4, if_true, if_false]; omega
  by_cases h5 : u < 34359738368
  · simp only [h1, h2, h3, h4, h5, if_true, if_false]; omega
  by_cases h6 : u < 4398046511104
  · simp only [h1, h2, h3, h4, h5, h6, if_true, if_false]; omega
  by_cases h7 : u < 562949953421312
  · simp only [h1, h2, h3, h4, h5, h6, h7, if_true, if_false]; omega
  by_cases h8 : u < 72057594037927936
  · simp only [h1, h2, h3, h4, h5, h6, h7, h8, if_true, if_false]; omega
  simp only [h1, h2, h3, h4, h5, h6, h7, h8, if_false]
  omega
theorem beh_at (u k : Nat) (hk : k < 8) (h : k ≤ beh u) : (u < 2 ^ (7 * (k + 1)) → beh u = k) ∧ (¬ u < 2 ^ (7 * (k + 1)) → k + 1 ≤ beh u) := by
  refine ⟨fun h1 => ?_, fun h1 => ?_⟩
  · by_cases e : beh u = k
    · exact e
    · have h2 := beh_ge u (by omega)
      have h3 : 2 ^ (7 * (k + 1)) ≤ 2 ^ (7 * beh u) := Nat.pow_le_pow_right (by omega) (by omega)
      omega
  · by_cases e : beh u = k
    · have h2 := beh_lt u (by omega)
      rw [e] at h2
      exact absurd h2 h1
    · omega
set_option maxRecDepth 100000 in
theorem rmore_any (u : Nat) (hu : u < 2 ^ 64) (w : World) :
    Calls Tryz.prog 88 #[.int .u64 u] w fun e w' => e = .returned (.int .i64 (beh u)) ∧ w = w' := by
  have HU := hid hu
  have h8 := beh_le u
  obtain ⟨q, hq⟩ : ∃ q, beh u = q := ⟨_, rfl⟩
  have HQ := hid hq
  rw [hq] at h8
  clear hu hq
  go_enter Tryz.func88, Tryz.ntmps88
  go_wp2_with fail
  go_loopw [3] (fun i wr => ∃ k : Nat, k ≤ q ∧ i = .int .i64 k ∧ w = wr) (fun i _ => 9 - (intOf i).toNat)
  case atStart => exact ⟨0, Nat.zero_le _, rfl, rfl⟩
  case round =>
    obtain ⟨k, hk, rfl, rfl⟩ := hrel
    by_cases hlt : k < 8
    · have hat := beh_at u k hlt (by rw [HQ.out]; exact hk)
      rw [HQ.out] at hat
      have HAT := hid hat
      clear hat
      obtain rfl | rfl | rfl | rfl | rfl | rfl | rfl | rfl : k = 0 ∨ k = 1 ∨ k = 2 ∨ k = 3 ∨ k = 4 ∨ k = 5 ∨ k = 6 ∨ k = 7 := by omega
      · by_cases hc : u < 128
        · have d : decide ((u : Int) < 128) = true := decide_eq_true (by omega)
          have hq := HAT.out.1 hc
          go_wp2_with fail
          go_ret
          rw [HQ.out, hq]
          exact ⟨rfl, rfl⟩
        · have d : decide ((u : Int) < 128) = false := decide_eq_false (by omega)
          have hq := HAT.out.2 hc
          go_wp2_with fail
          exact ⟨⟨1, hq, rfl, by first | rfl | trivial⟩, by simp [intOf]⟩
      · by_cases hc : u < 16384
        · have d : decide ((u : Int) < 16384) = true := decide_eq_true (by omega)
          have hq := HAT.out.1 hc
          go_wp2_with fail
          go_ret
          rw [HQ.out, hq]
          exact ⟨rfl, rfl⟩
        · have d : decide ((u : Int) < 16384) = false := decide_eq_false (by omega)
          have hq := HAT.out.2 hc
          go_wp2_with fail
          exact ⟨⟨2, hq, rfl, by first | rfl | trivial⟩, by simp [intOf]⟩
      · by_cases hc : u < 2097152
        · have d : decide ((u : Int) < 2097152) = true := decide_eq_true (by omega)
          have hq := HAT.out.1 hc
          go_wp2_with fail
          go_ret
          rw [HQ.out, hq]
          exact ⟨rfl, rfl⟩
        · have d : decide ((u : Int) < 2097152) = false := decide_eq_false (by omega)
          have hq := HAT.out.2 hc
          go_wp2_with fail
          exact ⟨⟨3, hq, rfl, by first | rfl | trivial⟩, by simp [intOf]⟩
      · by_cases hc : u < 268435456
        · have d : decide ((u : Int) < 268435456) = true := decide_eq_true (by omega)
          have hq := HAT.out.1 hc
          go_wp2_with fail
          go_ret
          rw [HQ.out, hq]
          exact ⟨rfl, rfl⟩
        · have d : decide ((u : Int) < 268435456) = false := decide_eq_false (by omega)
          have hq := HAT.out.2 hc
          go_wp2_with fail
          exact ⟨⟨4, hq, rfl, by first | rfl | trivial⟩, by simp [intOf]⟩
      · by_cases hc : u < 34359738368
        · have d : decide ((u : Int) < 34359738368) = true := decide_eq_true (by omega)
          have hq := HAT.out.1 hc
          go_wp2_with fail
          go_ret
          rw [HQ.out, hq]
          exact ⟨rfl, rfl⟩
        · have d : decide ((u : Int) < 34359738368) = false := decide_eq_false (by omega)
          have hq := HAT.out.2 hc
          go_wp2_with fail
          exact ⟨⟨5, hq, rfl, by first | rfl | trivial⟩, by simp [intOf]⟩
      · by_cases hc : u < 4398046511104
        · have d : decide ((u : Int) < 4398046511104) = true := decide_eq_true (by omega)
          have hq := HAT.out.1 hc
          go_wp2_with fail
          go_ret
          rw [HQ.out, hq]
          exact ⟨rfl, rfl⟩
        · have d : decide ((u : Int) < 4398046511104) = false := decide_eq_false (by omega)
          have hq := HAT.out.2 hc
          go_wp2_with fail
          exact ⟨⟨6, hq, rfl, by first | rfl | trivial⟩, by simp [intOf]⟩
      · by_cases hc : u < 562949953421312
        · have d : decide ((u : Int) < 562949953421312) = true := decide_eq_true (by omega)
          have hq := HAT.out.1 hc
          go_wp2_with fail
          go_ret
          rw [HQ.out, hq]
          exact ⟨rfl, rfl⟩
        · have d : decide ((u : Int) < 562949953421312) = false := decide_eq_false (by omega)
          have hq := HAT.out.2 hc
          go_wp2_with fail
          exact ⟨⟨7, hq, rfl, by first | rfl | trivial⟩, by simp [intOf]⟩
      · by_cases hc : u < 72057594037927936
        · have d : decide ((u : Int) < 72057594037927936) = true := decide_eq_true (by omega)
          have hq := HAT.out.1 hc
          go_wp2_with fail
          go_ret
          rw [HQ.out, hq]
          exact ⟨rfl, rfl⟩
        · have d : decide ((u : Int) < 72057594037927936) = false := decide_eq_false (by omega)
          have hq := HAT.out.2 hc
          go_wp2_with fail
          exact ⟨⟨8, hq, rfl, by first | rfl | trivial⟩, by simp [intOf]⟩
    · have hq8 : k = 8 := by omega
      subst hq8
      go_wp2_with fail
      go_ret
      have : q = 8 := by omega
      rw [HQ.out, this]
      exact ⟨rfl, rfl⟩
end Go.Proofs.YtodledidabdkaaaGreatDoor

namespace Go.Proofs.YtodledidabdkaaaGreatDoor
open Go.RowKit
set_option linter.unusedVariables false
set_option linter.unusedSimpArgs false
def onesv (i : Nat) : Int := ((256 - 2 ^ (8 - i) : Nat) : Int)
theorem onesv_step : ∀ i : Fin 8, bits BinOp.or IntKind.u8 (onesv i.val) (128 / 2 ^ i.val) = onesv (i.val + 1) := by decide +kernel
set_option maxRecDepth 100000 in
set_option maxHeartbeats 1000000 in
theorem rput_any (v : Value) (xs : By) (u : Nat) (hu : u < 2 ^ 64) (hn : xs.length ≤ 140737488300000) (w : World) (h : Rb v xs w) :
    Calls Tryz.prog 54 #[v, .int .u64 u] w (OutB w (xs ++ enc u)) := by
  obtain ⟨A, c, rfl, h⟩ := h
  obtain ⟨k, hk⟩ : ∃ k, beh u = k := ⟨_, rfl⟩
  have hk8 : k ≤ 8 := hk ▸ beh_le u
  have H := hid h
  have HU := hid hu
  have HN := hid hn
  have HK := hid hk
  clear h hu hn hk
  go_enter Tryz.func54, Tryz.ntmps54
  go_wp2_with (at_builtin; go_loud (refine wpList_app el8 (own_build0 (base := w.heap.size) (Nat.le_refl _)) (by have h := H.out; obtain ⟨h1, h2, h3⟩ := h; refine ⟨h1, h2, fun h => ?_⟩; obtain ⟨b, o, e, hr⟩ := h3 h; exact ⟨b, o, e, fun j z hz => (Kp.al w _).cell (hr j z hz) trivial⟩) (u8s_one xs) ?_ (by simp) rfl _ _ rfl rfl rfl ?_); (have := HN.out; omega); intro v' w2 hown2 hg2 hob2 hnil2; obtain ⟨A2, c2', rfl⟩ := own_shape hown2; rw [List.nil_append, Nat.zero_add] at hown2; have HOW := hid hown2; have HG2 := hid hg2; clear hown2 hg2 hob2 hnil2)
  refine (rmore_any u HU.out _).mono ?_
  rintro e w3 ⟨rfl, rfl⟩
  rw [HK.out]
  have hk0 : Kp All w w2 := ((Kp.refl All w).alloc (.cells #[] 5)).then (Kp.grown HG2.out) (fun i hi _ => by simp [Value.ownBlock]; omega)
  have HK0 := hid hk0
  clear hk0
  go_wp2_with fail
  go_loopw [7, 8] (fun o i wr => ∃ j : Nat, j ≤ k ∧ i = .int .i64 j ∧ o = .int .u8 (onesv j) ∧ w2 = wr) (fun _ i _ => k - (intOf i).toNat)
  case atStart => exact ⟨0, Nat.zero_le _, rfl, rfl, rfl⟩
  case round =>
    obtain ⟨j, hj, rfl, rfl, rfl⟩ := hrel
    by_cases hlt : j < k
    · have hb0 : decide ((j : Int) < (k : Int)) = true := decide_eq_true (by omega)
      have hw : IntKind.u64.wrap (j : Int) = j := by rw [wrap64u]; omega
      have hs := onesv_step ⟨j, by omega⟩
      simp only at hs
      go_wp2_with fail
      exact ⟨⟨j + 1, by omega, by go_num, by first | rfl | trivial, by first | rfl | trivial⟩, by simp [intOf]; omega⟩
    · have hb0 : decide ((j : Int) < (k : Int)) = false := decide_eq_false (by omega)
      obtain rfl : j = k := by omega
      by_cases h8 : j < 8
      · have d8 : decide ((j : Int) < 8) = true := decide_eq_true (by omega)
        have HF : Hid (bits .or .u8 (onesv j) ((u : Int) / 2 ^ (8 * j) % 256) = ((first u : Nat) : Int)) := hid (first_eq u j HU.out HK.out h8)
        have hwj : IntKind.u64.wrap (8 * (j : Int)) = 8 * (j : Int) := by rw [wrap64u]; omega
        go_wp2_with (at_builtin; rw [HF.out]; go_loud (refine wpList_app el8 (HOW.out.alloc _) (sl_new1 _ _ _) (u8_one1 _ _) ?_ (Nat.le_trans HK0.out.size (by simp)) rfl _ _ rfl rfl rfl ?_); (have := HN.out; omega); intro v' w4 hown4 hg4 hob4 hnil4; obtain ⟨A4, c4', rfl⟩ := own_shape hown4; have HOW4 := hid hown4; have HG4 := hid hg4; clear hown4 hg4 hob4 hnil4)
        have hk4 : Kp All w w4 := (HK0.out.alloc _).then (Kp.grown HG4.out) (fun i hi _ e => by
          have := (HOW.out.lt i e.symm).1
          omega)
        have hw4 : w4.ownsRow w.heap.size 5 1 (.slice A4 (xs.length + 1) c4') (xs ++ [UInt8.ofNat (first u)]).length (u8s (xs ++ [UInt8.ofNat (first u)])) := by
          rw [u8s_append, List.length_append]
          have hf := first_lt u HU.out
          have e : u8s [UInt8.ofNat (first u)] = [.int .u8 (first u)] := by
            simp [u8s]; omega
          rw [e]
          exact HOW4.out
        have HW4 := hid hw4
        have HK4 := hid hk4
        have henc : (xs ++ [UInt8.ofNat (first u)]) ++ tailb u j = xs ++ enc u := by rw [enc, HK.out]; simp
        have HE := hid henc
        clear hk4 hw4 henc
        go_loopw [5, 9] (fun x i wr => ∃ (m : Nat) (cur : By), m ≤ j ∧ i = .int .i64 ((m : Int) - 1) ∧ Hid (cur ++ tailb u m = xs ++ enc u) ∧ Hid (wr.ownsRow w.heap.size 5 1 x cur.length (u8s cur)) ∧ Hid (Kp All w wr)) (fun _ i _ => (intOf i + 1).toNat)
        case atStart => exact ⟨j, _, Nat.le_refl _, rfl, HE, HW4, HK4⟩
        case round =>
          obtain ⟨m, cur, hm, rfl, hcur, hown, hkp⟩ := hrel
          obtain ⟨A3, c3, rfl⟩ := own_shape hown.out
          match m, hm with
          | 0, _ =>
            have d0 : decide ((0 : Int) ≤ ((0 : Nat) : Int) - 1) = false := decide_eq_false (by omega)
            go_wp2_with fail
            have hc : cur = xs ++ enc u := by have := hcur.out; simpa [tailb] using this
            subst hc
            refine bodyPost_ret (v := .slice A3 (xs ++ enc u).length c3) (by simp [results, Tryz.results54, go_sem]) rfl ⟨⟨_, rfl, hown.out⟩, hkp.out⟩
          | m + 1, hm =>
            have d0 : decide ((0 : Int) ≤ ((m + 1 : Nat) : Int) - 1) = true := decide_eq_true (by omega)
            have hm7 : m ≤ 7 := by omega
            have em : (((m + 1 : Nat) : Int) - 1) = (m : Int) := by omega
            rw [em] at d0
            rw [em]
            have HT := hid (tail_eq u m)
            have hwm : IntKind.u64.wrap (8 * (m : Int)) = 8 * (m : Int) := by rw [wrap64u]; omega
            have hcl : cur.length ≤ xs.length + 9 := by
              have := congrArg List.length hcur.out
              have h9 := enc_len_le u
              simp only [List.length_append] at this
              omega
            have HCL := hid hcl
            clear hcl
            go_wp2_with (at_builtin; rw [HT.out]; go_loud (refine wpList_app el8 (hown.out.alloc _) (sl_new1 _ _ _) (u8_one1 _ _) ?_ (Nat.le_trans hkp.out.size (by simp)) rfl _ _ rfl rfl rfl ?_); (have := HN.out; have := HCL.out; omega); intro v' w5 hown5 hg5 hob5 hnil5; obtain ⟨A5, c5', rfl⟩ := own_shape hown5; have HOW5 := hid hown5; have HG5 := hid hg5; clear hown5 hg5 hob5 hnil5)
            refine ⟨⟨m, cur ++ [UInt8.ofNat (u / 256 ^ m)], by omega, by go_num, ?_, ?_, ?_⟩, by simp [intOf]⟩
            · have := hcur.out
              rw [tailb] at this
              exact hid (by rw [← this]; simp)
            · refine hid ?_
              rw [u8s_append, List.length_append]
              exact HOW5.out
            · exact hid ((hkp.out.alloc _).then (Kp.grown HG5.out) (fun i hi hS e => by
                have := (hown.out.lt i e.symm).1
                omega))
      · have d8 : decide ((j : Int) < 8) = false := decide_eq_false (by omega)
        have HF : Hid (onesv j = ((first u : Nat) : Int)) := by
          refine hid ?_
          have hu := HU.out
          have : j = 8 := by omega
          subst this
          rw [first, HK.out]
          simp [onesv]
          omega
        go_wp2_with (at_builtin; rw [HF.out]; go_loud (refine wpList_app el8 (HOW.out.alloc _) (sl_new1 _ _ _) (u8_one1 _ _) ?_ (Nat.le_trans HK0.out.size (by simp)) rfl _ _ rfl rfl rfl ?_); (have := HN.out; omega); intro v' w4 hown4 hg4 hob4 hnil4; obtain ⟨A4, c4', rfl⟩ := own_shape hown4; have HOW4 := hid hown4; have HG4 := hid hg4; clear hown4 hg4 hob4 hnil4)
        have hk4 : Kp All w w4 := (HK0.out.alloc _).then (Kp.grown HG4.out) (fun i hi _ e => by
          have := (HOW.out.lt i e.symm).1
          omega)
        have hw4 : w4.ownsRow w.heap.size 5 1 (.slice A4 (xs.length + 1) c4') (xs ++ [UInt8.ofNat (first u)]).length (u8s (xs ++ [UInt8.ofNat (first u)])) := by
          rw [u8s_append, List.length_append]
          have hf := first_lt u HU.out
          have e : u8s [UInt8.ofNat (first u)] = [.int .u8 (first u)] := by
            simp [u8s]; omega
          rw [e]
          exact HOW4.out
        have HW4 := hid hw4
        have HK4 := hid hk4
        have henc : (xs ++ [UInt8.ofNat (first u)]) ++ tailb u j = xs ++ enc u := by rw [enc, HK.out]; simp
        have HE := hid henc
        clear hk4 hw4 henc
        go_loopw [5, 9] (fun x i wr => ∃ (m : Nat) (cur : By), m ≤ j ∧ i = .int .i64 ((m : Int) - 1) ∧ Hid (cur ++ tailb u m = xs ++ enc u) ∧ Hid (wr.ownsRow w.heap.size 5 1 x cur.length (u8s cur)) ∧ Hid (Kp All w wr)) (fun _ i _ => (intOf i + 1).toNat)
        case atStart => exact ⟨j, _, Nat.le_refl _, rfl, HE, HW4, HK4⟩
        case round =>
          obtain ⟨m, cur, hm, rfl, hcur, hown, hkp⟩ := hrel
          obtain ⟨A3, c3, rfl⟩ := own_shape hown.out
          match m, hm with
          | 0, _ =>
            have d0 : decide ((0 : Int) ≤ ((0 : Nat) : Int) - 1) = false := decide_eq_false (by omega)
            go_wp2_with fail
            have hc : cur = xs ++ enc u := by have := hcur.out; simpa [tailb] using this
            subst hc
            refine bodyPost_ret (v := .slice A3 (xs ++ enc u).length c3) (by simp [results, Tryz.results54, go_sem]) rfl ⟨⟨_, rfl, hown.out⟩, hkp.out⟩
          | m + 1, hm =>
            have d0 : decide ((0 : Int) ≤ ((m + 1 : Nat) : Int) - 1) = true := decide_eq_true (by omega)
            have hm7 : m ≤ 7 := by omega
            have em : (((m + 1 : Nat) : Int) - 1) = (m : Int) := by omega
            rw [em] at d0
            rw [em]
            have HT := hid (tail_eq u m)
            have hwm : IntKind.u64.wrap (8 * (m : Int)) = 8 * (m : Int) := by rw [wrap64u]; omega
            have hcl : cur.length ≤ xs.length + 9 := by
              have := congrArg List.length hcur.out
              have h9 := enc_len_le u
              simp only [List.length_append] at this
              omega
            have HCL := hid hcl
            clear hcl
            go_wp2_with (at_builtin; rw [HT.out]; go_loud (refine wpList_app el8 (hown.out.alloc _) (sl_new1 _ _ _) (u8_one1 _ _) ?_ (Nat.le_trans hkp.out.size (by simp)) rfl _ _ rfl rfl rfl ?_); (have := HN.out; have := HCL.out; omega); intro v' w5 hown5 hg5 hob5 hnil5; obtain ⟨A5, c5', rfl⟩ := own_shape hown5; have HOW5 := hid hown5; have HG5 := hid hg5; clear hown5 hg5 hob5 hnil5)
            refine ⟨⟨m, cur ++ [UInt8.ofNat (u / 256 ^ m)], by omega, by go_num, ?_, ?_, ?_⟩, by simp [intOf]⟩
            · have := hcur.out
              rw [tailb] at this
              exact hid (by rw [← this]; simp)
            · refine hid ?_
              rw [u8s_append, List.length_append]
              exact HOW5.out
            · exact hid ((hkp.out.alloc _).then (Kp.grown HG5.out) (fun i hi hS e => by
                have := (hown.out.lt i e.symm).1
                omega))
end Go.Proofs.YtodledidabdkaaaGreatDoor

namespace Go.Proofs.YtodledidabdkaaaGreatDoor
open Go.RowKit
set_option linter.unusedVariables false
set_option linter.unusedSimpArgs false
theorem sl_alloc {A : Option Addr} {n c sz : Nat} {xs : List Value} {w : World} (h : Sl A n c sz xs w) (o : Obj) : Sl A n c sz xs (w.alloc o) := by
  obtain ⟨h1, h2, h3⟩ := h
  refine ⟨h1, h2, fun h => ?_⟩
  obtain ⟨b, o, e, hr⟩ := h3 h
  exact ⟨b, o, e, fun j z hz => (Kp.al w _).cell (hr j z hz) trivial⟩
set_option maxRecDepth 100000 in
theorem rputtext_any (v : Value) (xs : By) (s : ByteArray) (hn : xs.length + s.size ≤ 140737488200000) (w : World) (h : Rb v xs w) :
    Calls Tryz.prog 55 #[v, .string s] w (OutB w (xs ++ encText s)) := by
  have H := hid h
  have hu : IntKind.u64.wrap (s.size : Int) = s.size := by rw [wrap64u]; omega
  have HN := hid hn
  clear h hn
  go_enter Tryz.func55, Tryz.ntmps55
  go_wp2_with fail
  refine (rput_any v xs s.size (by have := HN.out; omega) (by have := HN.out; omega) w H.out).mono ?_
  rintro e w3 ⟨⟨v3, rfl, h3⟩, k3⟩
  obtain ⟨A3, c3, rfl⟩ := own_shape h3
  have hl : (xs ++ enc s.size).length ≤ xs.length + 9 := by have := enc_len_le s.size; simp; omega
  obtain ⟨n3, hn3⟩ : ∃ n3, (xs ++ enc s.size).length = n3 := ⟨_, rfl⟩
  rw [hn3] at h3 hl
  rw [hn3]
  have H3 := hid h3
  have HN3 := hid hn3
  clear hn3
  have K3 := hid k3
  have HL := hid hl
  clear h3 k3 hl
  obtain ⟨i, hi, hz, hs, hby⟩ := info_parts el8.info
  go_wp2_with (at_builtin; go_loud (refine Lib.wpList_append_own_string _ rfl _ _ 48 9 rfl w.heap.size 5 i Tryz.underlying48 Tryz.underlying9 hi hz hs hby _ _ _ rfl H3.out s rfl ?_ ?_ K3.out.size ?_); (have h1 := HN.out; have h2 := HL.out; have h3 := max63; omega); (have h1 := HN.out; have h2 := HL.out; omega); intro v' w4 hown4 hg4 hnil4; obtain ⟨A4, c4', rfl⟩ := own_shape hown4; have HOW4 := hid hown4; have HG4 := hid hg4; clear hown4 hg4 hnil4)
  go_ret
  refine ⟨⟨_, rfl, ?_⟩, K3.out.then (Kp.grown HG4.out) (fun i hi hS e => by have := (H3.out.lt i e.symm).1; omega)⟩
  have := HOW4.out
  rw [strCells_u8s, ← u8s_append, List.append_assoc] at this
  have e : (xs ++ encText s).length = (xs ++ enc s.size).length + s.size := by
    simp [encText]
    omega
  rw [e, HN3.out]
  exact this
end Go.Proofs.YtodledidabdkaaaGreatDoor
