/- The document's writers of the codec over rows: Put, PutText, PutBool: walked once each. No condition but that the numbers are of their kinds, and the rows not great. -/
import Derived.Test.YtkipijdbkkcioaaCG
namespace Go.Proofs.Ytkipijdbkkcioaa
open Go.RowKit
set_option linter.unusedVariables false
set_option linter.unusedSimpArgs false
def onesv (i : Nat) : Int := ((256 - 2 ^ (8 - i) : Nat) : Int)
theorem onesv_step : ∀ i : Fin 8, bits BinOp.or IntKind.u8 (onesv i.val) (128 / 2 ^ i.val) = onesv (i.val + 1) := by decide +kernel
set_option maxRecDepth 100000 in
set_option maxHeartbeats 1000000 in
theorem rput_any (v : Value) (xs : By) (u : Nat) (hu : u < 2 ^ 64) (hn : xs.length ≤ 140737488300000) (w : World) (h : Rb v xs w) :
    Calls Try.prog 37 #[v, .int .u64 u] w (OutB w (xs ++ enc u)) := by
  obtain ⟨A, c, rfl, h⟩ := h
  obtain ⟨k, hk⟩ : ∃ k, beh u = k := ⟨_, rfl⟩
  have hk8 : k ≤ 8 := hk ▸ beh_le u
  have H := hid h
  have HU := hid hu
  have HN := hid hn
  have HK := hid hk
  clear h hu hn hk
  go_enter Try.func37, Try.ntmps37
  go_wp2_with (at_builtin; go_loud (refine wpList_app el8 (own_build0 (base := w.heap.size) (Nat.le_refl _)) (by have h := H.out; obtain ⟨h1, h2, h3⟩ := h; refine ⟨h1, h2, fun h => ?_⟩; obtain ⟨b, o, e, hr⟩ := h3 h; exact ⟨b, o, e, fun j z hz => (Kp.al w _).cell (hr j z hz) trivial⟩) (u8s_one xs) ?_ (by simp) rfl _ _ rfl rfl rfl ?_); (have := HN.out; omega); intro v' w2 hown2 hg2 hob2 hnil2; obtain ⟨A2, c2', rfl⟩ := own_shape hown2; rw [List.nil_append, Nat.zero_add] at hown2; have HOW := hid hown2; have HG2 := hid hg2; clear hown2 hg2 hob2 hnil2)
  refine (rmore_any u HU.out _).mono ?_
  rintro e w3 ⟨rfl, rfl⟩
  rw [HK.out]
  have hk0 : Kp All w w2 := ((Kp.refl All w).alloc (.cells #[] 5)).then (Kp.grown HG2.out) (fun i hi _ => by simp [Value.ownBlock]; omega)
  have HK0 := hid hk0
  clear hk0
  go_wp2_with fail
  go_loopw [7, 8] (fun o i wr => ∃ j : Nat, j ≤ k ∧ i = .int .i64 j ∧ o = .int .u8 (onesv j) ∧ w2 = wr) (fun _ i _ => k - (intOf i).toNat)
  case atStart => exact ⟨0, Nat.zero_le _, rfl, rfl, rfl⟩
  case round =>
    obtain ⟨j, hj, rfl, rfl, rfl⟩ := hrel
    by_cases hlt : j < k
    · have hb0 : decide ((j : Int) < (k : Int)) = true := decide_eq_true (by omega)
      have hw : IntKind.u64.wrap (j : Int) = j := by rw [wrap64u]; omega
      have hs := onesv_step ⟨j, by omega⟩
      simp only at hs
      go_wp2_with fail
      exact ⟨⟨j + 1, by omega, by go_num, by first | rfl | trivial, by first | rfl | trivial⟩, by simp [intOf]; omega⟩
    · have hb0 : decide ((j : Int) < (k : Int)) = false := decide_eq_false (by omega)
      obtain rfl : j = k := by omega
      by_cases h8 : j < 8
      · have d8 : decide ((j : Int) < 8) = true := decide_eq_true (by omega)
        have HF : Hid (bits .or .u8 (onesv j) ((u : Int) / 2 ^ (8 * j) % 256) = ((first u : Nat) : Int)) := hid (first_eq u j HU.out HK.out h8)
        have hwj : IntKind.u64.wrap (8 * (j : Int)) = 8 * (j : Int) := by rw [wrap64u]; omega
        go_wp2_with (at_builtin; rw [HF.out]; go_loud (refine wpList_app el8 (HOW.out.alloc _) (sl_new1 _ _ _) (u8_one1 _ _) ?_ (Nat.le_trans HK0.out.size (by simp)) rfl _ _ rfl rfl rfl ?_); (have := HN.out; omega); intro v' w4 hown4 hg4 hob4 hnil4; obtain ⟨A4, c4', rfl⟩ := own_shape hown4; have HOW4 := hid hown4; have HG4 := hid hg4; clear hown4 hg4 hob4 hnil4)
        have hk4 : Kp All w w4 := (HK0.out.alloc _).then (Kp.grown HG4.out) (fun i hi _ e => by
          have := (HOW.out.lt i e.symm).1
          omega)
        have hw4 : w4.ownsRow w.heap.size 5 1 (.slice A4 (xs.length + 1) c4') (xs ++ [UInt8.ofNat (first u)]).length (u8s (xs ++ [UInt8.ofNat (first u)])) := by
          rw [u8s_append, List.length_append]
          have hf := first_lt u HU.out
          have e : u8s [UInt8.ofNat (first u)] = [.int .u8 (first u)] := by
            simp [u8s]; omega
          rw [e]
          exact HOW4.out
        have HW4 := hid hw4
        have HK4 := hid hk4
        have henc : (xs ++ [UInt8.ofNat (first u)]) ++ tailb u j = xs ++ enc u := by rw [enc, HK.out]; simp
        have HE := hid henc
        clear hk4 hw4 henc
        go_loopw [5, 9] (fun x i wr => ∃ (m : Nat) (cur : By), m ≤ j ∧ i = .int .i64 ((m : Int) - 1) ∧ Hid (cur ++ tailb u m = xs ++ enc u) ∧ Hid (wr.ownsRow w.heap.size 5 1 x cur.length (u8s cur)) ∧ Hid (Kp All w wr)) (fun _ i _ => (intOf i + 1).toNat)
        case atStart => exact ⟨j, _, Nat.le_refl _, rfl, HE, HW4, HK4⟩
        case round =>
          obtain ⟨m, cur, hm, rfl, hcur, hown, hkp⟩ := hrel
          obtain ⟨A3, c3, rfl⟩ := own_shape hown.out
          match m, hm with
          | 0, _ =>
            have d0 : decide ((0 : Int) ≤ ((0 : Nat) : Int) - 1) = false := decide_eq_false (by omega)
            go_wp2_with fail
            have hc : cur = xs ++ enc u := by have := hcur.out; simpa [tailb] using this
            subst hc
            refine bodyPost_ret (v := .slice A3 (xs ++ enc u).length c3) (by simp [results, Try.results37, go_sem]) rfl ⟨⟨_, rfl, hown.out⟩, hkp.out⟩
          | m + 1, hm =>
            have d0 : decide ((0 : Int) ≤ ((m + 1 : Nat) : Int) - 1) = true := decide_eq_true (by omega)
            have hm7 : m ≤ 7 := by omega
            have em : (((m + 1 : Nat) : Int) - 1) = (m : Int) := by omega
            rw [em] at d0
            rw [em]
            have HT := hid (tail_eq u m)
            have hwm : IntKind.u64.wrap (8 * (m : Int)) = 8 * (m : Int) := by rw [wrap64u]; omega
            have hcl : cur.length ≤ xs.length + 9 := by
              have := congrArg List.length hcur.out
              have h9 := enc_len_le u
              simp only [List.length_append] at this
              omega
            have HCL := hid hcl
            clear hcl
            go_wp2_with (at_builtin; rw [HT.out]; go_loud (refine wpList_app el8 (hown.out.alloc _) (sl_new1 _ _ _) (u8_one1 _ _) ?_ (Nat.le_trans hkp.out.size (by simp)) rfl _ _ rfl rfl rfl ?_); (have := HN.out; have := HCL.out; omega); intro v' w5 hown5 hg5 hob5 hnil5; obtain ⟨A5, c5', rfl⟩ := own_shape hown5; have HOW5 := hid hown5; have HG5 := hid hg5; clear hown5 hg5 hob5 hnil5)
            refine ⟨⟨m, cur ++ [UInt8.ofNat (u / 256 ^ m)], by omega, by go_num, ?_, ?_, ?_⟩, by simp [intOf]⟩
            · have := hcur.out
              rw [tailb] at this
              exact hid (by rw [← this]; simp)
            · refine hid ?_
              rw [u8s_append, List.length_append]
              exact HOW5.out
            · exact hid ((hkp.out.alloc _).then (Kp.grown HG5.out) (fun i hi hS e => by
                have := (hown.out.lt i e.symm).1
                omega))
      · have d8 : decide ((j : Int) < 8) = false := decide_eq_false (by omega)
        have HF : Hid (onesv j = ((first u : Nat) : Int)) := by
          refine hid ?_
          have hu := HU.out
          have : j = 8 := by omega
          subst this
          rw [first, HK.out]
          simp [onesv]
          omega
        go_wp2_with (at_builtin; rw [HF.out]; go_loud (refine wpList_app el8 (HOW.out.alloc _) (sl_new1 _ _ _) (u8_one1 _ _) ?_ (Nat.le_trans HK0.out.size (by simp)) rfl _ _ rfl rfl rfl ?_); (have := HN.out; omega); intro v' w4 hown4 hg4 hob4 hnil4; obtain ⟨A4, c4', rfl⟩ := own_shape hown4; have HOW4 := hid hown4; have HG4 := hid hg4; clear hown4 hg4 hob4 hnil4)
        have hk4 : Kp All w w4 := (HK0.out.alloc _).then (Kp.grown HG4.out) (fun i hi _ e => by
          have := (HOW.out.lt i e.symm).1
          omega)
        have hw4 : w4.ownsRow w.heap.size 5 1 (.slice A4 (xs.length + 1) c4') (xs ++ [UInt8.ofNat (first u)]).length (u8s (xs ++ [UInt8.ofNat (first u)])) := by
          rw [u8s_append, List.length_append]
          have hf := first_lt u HU.out
          have e : u8s [UInt8.ofNat (first u)] = [.int .u8 (first u)] := by
            simp [u8s]; omega
          rw [e]
          exact HOW4.out
        have HW4 := hid hw4
        have HK4 := hid hk4
        have henc : (xs ++ [UInt8.ofNat (first u)]) ++ tailb u j = xs ++ enc u := by rw [enc, HK.out]; simp
        have HE := hid henc
        clear hk4 hw4 henc
        go_loopw [5, 9] (fun x i wr => ∃ (m : Nat) (cur : By), m ≤ j ∧ i = .int .i64 ((m : Int) - 1) ∧ Hid (cur ++ tailb u m = xs ++ enc u) ∧ Hid (wr.ownsRow w.heap.size 5 1 x cur.length (u8s cur)) ∧ Hid (Kp All w wr)) (fun _ i _ => (intOf i + 1).toNat)
        case atStart => exact ⟨j, _, Nat.le_refl _, rfl, HE, HW4, HK4⟩
        case round =>
          obtain ⟨m, cur, hm, rfl, hcur, hown, hkp⟩ := hrel
          obtain ⟨A3, c3, rfl⟩ := own_shape hown.out
          match m, hm with
          | 0, _ =>
            have d0 : decide ((0 : Int) ≤ ((0 : Nat) : Int) - 1) = false := decide_eq_false (by omega)
            go_wp2_with fail
            have hc : cur = xs ++ enc u := by have := hcur.out; simpa [tailb] using this
            subst hc
            refine bodyPost_ret (v := .slice A3 (xs ++ enc u).length c3) (by simp [results, Try.results37, go_sem]) rfl ⟨⟨_, rfl, hown.out⟩, hkp.out⟩
          | m + 1, hm =>
            have d0 : decide ((0 : Int) ≤ ((m + 1 : Nat) : Int) - 1) = true := decide_eq_true (by omega)
            have hm7 : m ≤ 7 := by omega
            have em : (((m + 1 : Nat) : Int) - 1) = (m : Int) := by omega
            rw [em] at d0
            rw [em]
            have HT := hid (tail_eq u m)
            have hwm : IntKind.u64.wrap (8 * (m : Int)) = 8 * (m : Int) := by rw [wrap64u]; omega
            have hcl : cur.length ≤ xs.length + 9 := by
              have := congrArg List.length hcur.out
              have h9 := enc_len_le u
              simp only [List.length_append] at this
              omega
            have HCL := hid hcl
            clear hcl
            go_wp2_with (at_builtin; rw [HT.out]; go_loud (refine wpList_app el8 (hown.out.alloc _) (sl_new1 _ _ _) (u8_one1 _ _) ?_ (Nat.le_trans hkp.out.size (by simp)) rfl _ _ rfl rfl rfl ?_); (have := HN.out; have := HCL.out; omega); intro v' w5 hown5 hg5 hob5 hnil5; obtain ⟨A5, c5', rfl⟩ := own_shape hown5; have HOW5 := hid hown5; have HG5 := hid hg5; clear hown5 hg5 hob5 hnil5)
            refine ⟨⟨m, cur ++ [UInt8.ofNat (u / 256 ^ m)], by omega, by go_num, ?_, ?_, ?_⟩, by simp [intOf]⟩
            · have := hcur.out
              rw [tailb] at this
              exact hid (by rw [← this]; simp)
            · refine hid ?_
              rw [u8s_append, List.length_append]
              exact HOW5.out
            · exact hid ((hkp.out.alloc _).then (Kp.grown HG5.out) (fun i hi hS e => by
                have := (hown.out.lt i e.symm).1
                omega))
end Go.Proofs.Ytkipijdbkkcioaa
