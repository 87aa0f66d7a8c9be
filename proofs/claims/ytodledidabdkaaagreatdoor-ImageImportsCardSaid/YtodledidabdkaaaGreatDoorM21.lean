/- The document's Get: walked once. No condition but that the row is not great. The document's Reader: pass, Num, Int, Text, Count, End: walked once each. No condition but that the bytes lie in a row that is not great. -/
import Derived.Test.YtodledidabdkaaaGreatDoorM18
import Derived.Test.YtodledidabdkaaaGreatDoorM9
set_option linter.unusedVariables false
set_option linter.unusedSimpArgs false
namespace Go.Proofs.YtodledidabdkaaaGreatDoor
open Go.RowKit
set_option linter.unusedVariables false
set_option linter.unusedSimpArgs false
theorem rget_bit : ∀ x : Fin 256, ∀ k : Fin 8, k.val ≤ lead x.val → ((x.val / 2 ^ (7 - k.val)) % 2 = 1 ↔ k.val < lead x.val) := by decide +kernel
theorem rget_low : ∀ x : Fin 256, lead x.val < 7 → (x.val &&& (127 / 2 ^ lead x.val)) = x.val % 2 ^ (8 - lead x.val) := by decide +kernel
theorem rget_no : ∀ x : Fin 256, 7 ≤ lead x.val → x.val % 2 ^ (8 - lead x.val) = 0 := by decide +kernel
theorem u8_and1 (y : Nat) (hy : y < 256) : bits .and .u8 (y : Int) 1 = ((y % 2 : Nat) : Int) := by
  rw [show (1 : Int) = ((1 : Nat) : Int) from rfl, u8_and_nat _ _ hy (by omega), Nat.and_one_is_mod]
set_option maxRecDepth 100000 in
set_option maxHeartbeats 2000000 in
theorem rget_any (v : Value) (xs : By) (w : World) (h : Foot All (Rb v xs) w) (hl : xs.length ≤ 9000000000000000000) :
    Calls Tryz.prog 139 #[v] w fun e w' => e = .returned (.tuple #[.int .u64 ((getP xs).1 : Nat), .int .i64 ((getP xs).2 : Nat)]) ∧ Kp All w w' := by
  obtain ⟨A, c, rfl, _⟩ := h.now
  have H := hid (show Foot All (Sl A xs.length c 1 (u8s xs)) w from h.imp fun u hu => by
    obtain ⟨A', c', e, hs⟩ := hu
    injection e with e1 _ e2; subst e1 e2; exact hs)
  clear h
  cases xs with
  | nil =>
    go_enter Tryz.func139, Tryz.ntmps139
    go_wp2_with fail
    exact bodyPost_ret (v := .tuple #[.int .u64 0, .int .i64 0]) (by simp [results, Tryz.results139, go_sem]) rfl ⟨rfl, Kp.refl _ _⟩
  | cons x r =>
    obtain ⟨n, hn⟩ : ∃ n, (x :: r).length = n := ⟨_, rfl⟩
    have hrn : r.length + 1 = n := hn
    rw [hn] at hl ⊢
    obtain ⟨hc1, hc2, h3⟩ := H.out.now
    rw [hn] at hc2
    obtain ⟨b, o, eA, hr⟩ := h3 (by omega)
    subst eA
    have hx := x.toNat_lt
    have hat : ∀ j y, (x :: r)[j]? = some y → w.cell? ⟨b, o + j, none⟩ = some (.int .u8 y.toNat) := fun j y hj => hr j _ (by rw [u8s, List.getElem?_map, hj]; rfl)
    have p0 : w.cell? ⟨b, o, none⟩ = some (.int .u8 x.toNat) := hat 0 x rfl
    obtain ⟨k, hk⟩ : ∃ k, lead x.toNat = k := ⟨_, rfl⟩
    obtain ⟨hk8, hv, hand⟩ := lead_facts ⟨x.toNat, hx⟩
    simp only [hk] at hk8 hv hand
    have HN := hid hn; have HV := hid hv; have HK := hid hk; have HAT := hid hat; have HRN := hid hrn
    have HBT := hid (fun (j : Nat) (hj : j < 8) (hjk : j ≤ k) => rget_bit ⟨x.toNat, hx⟩ ⟨j, hj⟩ (by simp only [hk]; exact hjk))
    have HLO := hid (fun (h : k < 7) => rget_low ⟨x.toNat, hx⟩ (by simp only [hk]; exact h))
    have HNO := hid (fun (h : 7 ≤ k) => rget_no ⟨x.toNat, hx⟩ (by simp only [hk]; exact h))
    simp only [hk] at HBT HLO HNO
    have z0 : (0 : Int) < (n : Int) := by omega
    have dn : ((n : Int) == 0) = false := by simp; omega
    clear hn hand hv hk hat hr hc1 h3 hrn
    go_enter Tryz.func139, Tryz.ntmps139
    go_wp2_with fail
    go_loop [4] (fun i => ∃ j : Nat, j ≤ k ∧ i = .int .i64 j) (fun i => k - (intOf i).toNat)
    case atStart => exact ⟨0, Nat.zero_le _, rfl⟩
    case round =>
      obtain ⟨j, hj, rfl⟩ := hrel
      by_cases hj8 : j < 8
      case neg =>
        obtain rfl : k = j := by omega
        have d8 : decide ((k : Int) < 8) = false := decide_eq_false (by omega)
        have HR0 := HRN.out
        by_cases hnk : n ≤ k
        · have d1 : decide ((n : Int) < (k : Int) + 1) = true := decide_eq_true (by omega)
          go_wp2_with fail
          have hg : getP (x :: r) = (0, 0) := by rw [getP, HK.out, if_pos (by omega)]
          exact bodyPost_ret (v := .tuple #[.int .u64 0, .int .i64 0]) (by simp [results, Tryz.results139, go_sem]) rfl ⟨by rw [hg]; rfl, Kp.refl _ _⟩
        have d1 : decide ((n : Int) < (k : Int) + 1) = false := decide_eq_false (by omega)
        obtain ⟨v0, hv0⟩ : ∃ v0, x.toNat % 2 ^ (8 - k) = v0 := ⟨_, rfl⟩
        have hvb : v0 < 2 ^ (7 - k) := by rw [← hv0]; exact HV.out
        have HVB := hid hvb; have HV0 := hid hv0
        have HR := hid (show k ≤ r.length by omega)
        have d7 : decide ((k : Int) < 7) = false := decide_eq_false (by omega)
        have HU0 := hid (show v0 = 0 by rw [← hv0]; exact HNO.out (by omega))
        clear hvb hv0 HR0
        go_wp2_with fail
        go_loopw [5, 6] (fun u i wr => ∃ q j : Nat, q = j + 1 ∧ j ≤ k ∧ i = .int .i64 (q : Int) ∧ u = .int .u64 ((getFold v0 (r.take j) : Nat) : Int) ∧ Hid (Kp All w wr)) (fun _ i _ => k + 1 - (intOf i).toNat)
        case atStart => exact ⟨1, 0, rfl, Nat.zero_le _, rfl, by first | (rw [HU0.out]; simp [getFold]) | simp [getFold, HU0.out], hid (Kp.refl _ _)⟩
        case round =>
          obtain ⟨q, j, hq, hj, rfl, rfl, hkp⟩ := hrel
          by_cases hlt : j < k
          · have hb0 : decide ((q : Int) ≤ (k : Int)) = true := decide_eq_true (by omega)
            have hb9 : decide (q ≤ k) = true := decide_eq_true (by omega)
            obtain ⟨y, hy⟩ : ∃ y, r[j]? = some y := ⟨_, List.getElem?_eq_getElem (by have := HR.out; omega)⟩
            have q0 := hkp.out.cell (HAT.out q y (by rw [hq]; simpa using hy)) trivial
            have j0 : (0 : Int) ≤ (q : Int) := by omega
            have j1 : (q : Int) < (n : Int) := by omega
            have hfl := getFold_lt (r.take j) HVB.out
            have hub : getFold v0 (r.take j) * 256 < 2 ^ 64 := by
              have h1 : getFold v0 (r.take j) * 256 < 2 ^ (7 - k + 8 * (r.take j).length) * 2 ^ 8 := Nat.mul_lt_mul_of_pos_right hfl (by omega)
              rw [← Nat.pow_add] at h1
              have h2 : (r.take j).length ≤ j := by rw [List.length_take]; omega
              exact Nat.lt_of_lt_of_le h1 (Nat.pow_le_pow_right (by omega) (by omega))
            have HOR := hid (or_byte _ y hub)
            have HTK := hid (getFold_take (v := v0) hy)
            have HOQ := hid (or_byte' _ y hub)
            obtain ⟨uj, huj⟩ : ∃ uj, getFold v0 (r.take j) = uj := ⟨_, rfl⟩
            rw [huj] at HOR HTK HOQ ⊢
            have HQ := hid hq
            clear hfl hub huj hy hq
            go_wp2_with fail
            have hy8 := y.toNat_lt
            have ew : IntKind.u64.wrap (y.toNat : Int) = (y.toNat : Int) := by
              show (y.toNat : Int) % 18446744073709551616 = _
              omega
            have hq := HQ.out
            refine ⟨⟨q + 1, j + 1, by omega, by omega, by go_num, by first | (rw [ew, HOR.out, HTK.out]) | (rw [HOQ.out, HTK.out]) | (rw [HOR.out, HTK.out]), hkp⟩, by simp [intOf]; omega⟩
          · have hb0 : decide ((q : Int) ≤ (k : Int)) = false := decide_eq_false (by omega)
            have hb9 : decide (q ≤ k) = false := decide_eq_false (by omega)
            obtain rfl : j = k := by omega
            obtain ⟨uj, huj⟩ : ∃ uj, getFold v0 (r.take j) = uj := ⟨_, rfl⟩
            have hul : uj < 2 ^ 64 := by
              have h1 := getFold_lt (r.take j) HVB.out
              have h2 : (r.take j).length ≤ j := by rw [List.length_take]; omega
              rw [huj] at h1
              exact Nat.lt_of_lt_of_le h1 (Nat.pow_le_pow_right (by omega) (by omega))
            have HUJ := hid huj
            rw [huj]
            clear huj
            go_wp2_with fail
            refine (rmore_any uj hul _).mono ?_
            rintro e w3 ⟨rfl, rfl⟩
            by_cases hbe : beh uj = j
            · have hg : getP (x :: r) = (uj, j + 1) := by
                rw [getP, HK.out, if_neg (by have := HR.out; omega), HV0.out, HUJ.out, if_pos hbe]
              rw [hbe]
              have HG := hid hg
              clear hg
              go_wp2_with fail
              exact bodyPost_ret (v := .tuple #[.int .u64 uj, .int .i64 ((j : Int) + 1)]) (by simp [results, Tryz.results139, go_sem]) rfl ⟨by rw [HG.out]; rfl, hkp.out⟩
            · have hg : getP (x :: r) = (0, 0) := by
                rw [getP, HK.out, if_neg (by have := HR.out; omega), HV0.out, HUJ.out, if_neg hbe]
              have hne : (((beh uj : Nat) : Int) != (j : Int)) = true := by simp; omega
              have HG := hid hg
              clear hg
              go_wp2_with fail
              exact bodyPost_ret (v := .tuple #[.int .u64 0, .int .i64 0]) (by simp [results, Tryz.results139, go_sem]) rfl ⟨by rw [HG.out]; rfl, hkp.out⟩
      have d8 : decide ((j : Int) < 8) = true := decide_eq_true (by omega)
      have hbt := HBT.out j hj8 hj
      obtain ⟨y, hy⟩ : ∃ y, x.toNat / 2 ^ (7 - j) = y := ⟨_, rfl⟩
      rw [hy] at hbt
      have hy8 : y < 256 := by rw [← hy]; exact Nat.lt_of_le_of_lt (Nat.div_le_self _ _) hx
      have e7 : IntKind.u64.wrap (7 - (j : Int)) = ((7 - j : Nat) : Int) := by rw [wrap64u]; omega
      have e8 : IntKind.i64.wrap (7 - (j : Int)) = ((7 - j : Nat) : Int) := by rw [IntKind.wrap_i64]; omega
      have hyy : ((x.toNat : Nat) : Int) / 2 ^ (7 - j) = (y : Int) := by rw [← hy]; push_cast; rfl
      have hand := u8_and1 y hy8
      by_cases hjk : j < k
      · have hb2 : (bits .and .u8 (((x.toNat : Nat) : Int) / 2 ^ (7 - j)) 1 == 1) = true := by rw [hyy, hand, hbt.2 hjk]; rfl
        clear hbt hand hy hyy
        go_wp2_with fail
        exact ⟨⟨j + 1, by omega, by go_num⟩, by simp [intOf]; omega⟩
      have hb2 : (bits .and .u8 (((x.toNat : Nat) : Int) / 2 ^ (7 - j)) 1 == 1) = false := by
        have : ¬ y % 2 = 1 := fun h => hjk (hbt.1 h)
        rw [hyy, hand, show y % 2 = 0 by omega]; rfl
      clear hbt hand hy hyy
      obtain rfl : k = j := by omega
      by_cases h77 : k < 7
      · have HR0 := HRN.out
        by_cases hnk : n ≤ k
        · have d1 : decide ((n : Int) < (k : Int) + 1) = true := decide_eq_true (by omega)
          go_wp2_with fail
          have hg : getP (x :: r) = (0, 0) := by rw [getP, HK.out, if_pos (by omega)]
          exact bodyPost_ret (v := .tuple #[.int .u64 0, .int .i64 0]) (by simp [results, Tryz.results139, go_sem]) rfl ⟨by rw [hg]; rfl, Kp.refl _ _⟩
        have d1 : decide ((n : Int) < (k : Int) + 1) = false := decide_eq_false (by omega)
        obtain ⟨v0, hv0⟩ : ∃ v0, x.toNat % 2 ^ (8 - k) = v0 := ⟨_, rfl⟩
        have hvb : v0 < 2 ^ (7 - k) := by rw [← hv0]; exact HV.out
        have HVB := hid hvb; have HV0 := hid hv0
        have HR := hid (show k ≤ r.length by omega)
        have d7 : decide ((k : Int) < 7) = true := decide_eq_true (by omega)
        have hlo := HLO.out (by omega)
        have hv0l : v0 < 256 := by rw [← hv0]; exact Nat.lt_of_le_of_lt (Nat.mod_le _ _) hx
        have hkk : IntKind.u64.wrap (k : Int) = (k : Int) := by rw [wrap64u]; omega
        have HU0 : Hid (IntKind.u64.wrap (bits BinOp.and IntKind.u8 ((x.toNat : Nat) : Int) (127 / 2 ^ k)) = (v0 : Nat)) := hid (by
          have e1 : (127 : Int) / 2 ^ k = ((127 / 2 ^ k : Nat) : Int) := by push_cast; rfl
          rw [e1, u8_and_nat _ _ hx (Nat.lt_of_le_of_lt (Nat.div_le_self _ _) (by omega)), hlo, hv0]
          show ((v0 : Int)) % 18446744073709551616 = _
          omega)
        clear hlo hvb hv0 HR0 hv0l
        go_wp2_with fail
        go_loopw [5, 6] (fun u i wr => ∃ q j : Nat, q = j + 1 ∧ j ≤ k ∧ i = .int .i64 (q : Int) ∧ u = .int .u64 ((getFold v0 (r.take j) : Nat) : Int) ∧ Hid (Kp All w wr)) (fun _ i _ => k + 1 - (intOf i).toNat)
        case atStart => exact ⟨1, 0, rfl, Nat.zero_le _, rfl, by first | (rw [HU0.out]; simp [getFold]) | simp [getFold, HU0.out], hid (Kp.refl _ _)⟩
        case round =>
          obtain ⟨q, j, hq, hj, rfl, rfl, hkp⟩ := hrel
          by_cases hlt : j < k
          · have hb0 : decide ((q : Int) ≤ (k : Int)) = true := decide_eq_true (by omega)
            have hb9 : decide (q ≤ k) = true := decide_eq_true (by omega)
            obtain ⟨y, hy⟩ : ∃ y, r[j]? = some y := ⟨_, List.getElem?_eq_getElem (by have := HR.out; omega)⟩
            have q0 := hkp.out.cell (HAT.out q y (by rw [hq]; simpa using hy)) trivial
            have j0 : (0 : Int) ≤ (q : Int) := by omega
            have j1 : (q : Int) < (n : Int) := by omega
            have hfl := getFold_lt (r.take j) HVB.out
            have hub : getFold v0 (r.take j) * 256 < 2 ^ 64 := by
              have h1 : getFold v0 (r.take j) * 256 < 2 ^ (7 - k + 8 * (r.take j).length) * 2 ^ 8 := Nat.mul_lt_mul_of_pos_right hfl (by omega)
              rw [← Nat.pow_add] at h1
              have h2 : (r.take j).length ≤ j := by rw [List.length_take]; omega
              exact Nat.lt_of_lt_of_le h1 (Nat.pow_le_pow_right (by omega) (by omega))
            have HOR := hid (or_byte _ y hub)
            have HTK := hid (getFold_take (v := v0) hy)
            have HOQ := hid (or_byte' _ y hub)
            obtain ⟨uj, huj⟩ : ∃ uj, getFold v0 (r.take j) = uj := ⟨_, rfl⟩
            rw [huj] at HOR HTK HOQ ⊢
            have HQ := hid hq
            clear hfl hub huj hy hq
            go_wp2_with fail
            have hy8 := y.toNat_lt
            have ew : IntKind.u64.wrap (y.toNat : Int) = (y.toNat : Int) := by
              show (y.toNat : Int) % 18446744073709551616 = _
              omega
            have hq := HQ.out
            refine ⟨⟨q + 1, j + 1, by omega, by omega, by go_num, by first | (rw [ew, HOR.out, HTK.out]) | (rw [HOQ.out, HTK.out]) | (rw [HOR.out, HTK.out]), hkp⟩, by simp [intOf]; omega⟩
          · have hb0 : decide ((q : Int) ≤ (k : Int)) = false := decide_eq_false (by omega)
            have hb9 : decide (q ≤ k) = false := decide_eq_false (by omega)
            obtain rfl : j = k := by omega
            obtain ⟨uj, huj⟩ : ∃ uj, getFold v0 (r.take j) = uj := ⟨_, rfl⟩
            have hul : uj < 2 ^ 64 := by
              have h1 := getFold_lt (r.take j) HVB.out
              have h2 : (r.take j).length ≤ j := by rw [List.length_take]; omega
              rw [huj] at h1
              exact Nat.lt_of_lt_of_le h1 (Nat.pow_le_pow_right (by omega) (by omega))
            have HUJ := hid huj
            rw [huj]
            clear huj
            go_wp2_with fail
            refine (rmore_any uj hul _).mono ?_
            rintro e w3 ⟨rfl, rfl⟩
            by_cases hbe : beh uj = j
            · have hg : getP (x :: r) = (uj, j + 1) := by
                rw [getP, HK.out, if_neg (by have := HR.out; omega), HV0.out, HUJ.out, if_pos hbe]
              rw [hbe]
              have HG := hid hg
              clear hg
              go_wp2_with fail
              exact bodyPost_ret (v := .tuple #[.int .u64 uj, .int .i64 ((j : Int) + 1)]) (by simp [results, Tryz.results139, go_sem]) rfl ⟨by rw [HG.out]; rfl, hkp.out⟩
            · have hg : getP (x :: r) = (0, 0) := by
                rw [getP, HK.out, if_neg (by have := HR.out; omega), HV0.out, HUJ.out, if_neg hbe]
              have hne : (((beh uj : Nat) : Int) != (j : Int)) = true := by simp; omega
              have HG := hid hg
              clear hg
              go_wp2_with fail
              exact bodyPost_ret (v := .tuple #[.int .u64 0, .int .i64 0]) (by simp [results, Tryz.results139, go_sem]) rfl ⟨by rw [HG.out]; rfl, hkp.out⟩
      · have HR0 := HRN.out
        by_cases hnk : n ≤ k
        · have d1 : decide ((n : Int) < (k : Int) + 1) = true := decide_eq_true (by omega)
          go_wp2_with fail
          have hg : getP (x :: r) = (0, 0) := by rw [getP, HK.out, if_pos (by omega)]
          exact bodyPost_ret (v := .tuple #[.int .u64 0, .int .i64 0]) (by simp [results, Tryz.results139, go_sem]) rfl ⟨by rw [hg]; rfl, Kp.refl _ _⟩
        have d1 : decide ((n : Int) < (k : Int) + 1) = false := decide_eq_false (by omega)
        obtain ⟨v0, hv0⟩ : ∃ v0, x.toNat % 2 ^ (8 - k) = v0 := ⟨_, rfl⟩
        have hvb : v0 < 2 ^ (7 - k) := by rw [← hv0]; exact HV.out
        have HVB := hid hvb; have HV0 := hid hv0
        have HR := hid (show k ≤ r.length by omega)
        have d7 : decide ((k : Int) < 7) = false := decide_eq_false (by omega)
        have HU0 := hid (show v0 = 0 by rw [← hv0]; exact HNO.out (by omega))
        clear hvb hv0 HR0
        go_wp2_with fail
        go_loopw [5, 6] (fun u i wr => ∃ q j : Nat, q = j + 1 ∧ j ≤ k ∧ i = .int .i64 (q : Int) ∧ u = .int .u64 ((getFold v0 (r.take j) : Nat) : Int) ∧ Hid (Kp All w wr)) (fun _ i _ => k + 1 - (intOf i).toNat)
        case atStart => exact ⟨1, 0, rfl, Nat.zero_le _, rfl, by first | (rw [HU0.out]; simp [getFold]) | simp [getFold, HU0.out], hid (Kp.refl _ _)⟩
        case round =>
          obtain ⟨q, j, hq, hj, rfl, rfl, hkp⟩ := hrel
          by_cases hlt : j < k
          · have hb0 : decide ((q : Int) ≤ (k : Int)) = true := decide_eq_true (by omega)
            have hb9 : decide (q ≤ k) = true := decide_eq_true (by omega)
            obtain ⟨y, hy⟩ : ∃ y, r[j]? = some y := ⟨_, List.getElem?_eq_getElem (by have := HR.out; omega)⟩
            have q0 := hkp.out.cell (HAT.out q y (by rw [hq]; simpa using hy)) trivial
            have j0 : (0 : Int) ≤ (q : Int) := by omega
            have j1 : (q : Int) < (n : Int) := by omega
            have hfl := getFold_lt (r.take j) HVB.out
            have hub : getFold v0 (r.take j) * 256 < 2 ^ 64 := by
              have h1 : getFold v0 (r.take j) * 256 < 2 ^ (7 - k + 8 * (r.take j).length) * 2 ^ 8 := Nat.mul_lt_mul_of_pos_right hfl (by omega)
              rw [← Nat.pow_add] at h1
              have h2 : (r.take j).length ≤ j := by rw [List.length_take]; omega
              exact Nat.lt_of_lt_of_le h1 (Nat.pow_le_pow_right (by omega) (by omega))
            have HOR := hid (or_byte _ y hub)
            have HTK := hid (getFold_take (v := v0) hy)
            have HOQ := hid (or_byte' _ y hub)
            obtain ⟨uj, huj⟩ : ∃ uj, getFold v0 (r.take j) = uj := ⟨_, rfl⟩
            rw [huj] at HOR HTK HOQ ⊢
            have HQ := hid hq
            clear hfl hub huj hy hq
            go_wp2_with fail
            have hy8 := y.toNat_lt
            have ew : IntKind.u64.wrap (y.toNat : Int) = (y.toNat : Int) := by
              show (y.toNat : Int) % 18446744073709551616 = _
              omega
            have hq := HQ.out
            refine ⟨⟨q + 1, j + 1, by omega, by omega, by go_num, by first | (rw [ew, HOR.out, HTK.out]) | (rw [HOQ.out, HTK.out]) | (rw [HOR.out, HTK.out]), hkp⟩, by simp [intOf]; omega⟩
          · have hb0 : decide ((q : Int) ≤ (k : Int)) = false := decide_eq_false (by omega)
            have hb9 : decide (q ≤ k) = false := decide_eq_false (by omega)
            obtain rfl : j = k := by omega
            obtain ⟨uj, huj⟩ : ∃ uj, getFold v0 (r.take j) = uj := ⟨_, rfl⟩
            have hul : uj < 2 ^ 64 := by
              have h1 := getFold_lt (r.take j) HVB.out
              have h2 : (r.take j).length ≤ j := by rw [List.length_take]; omega
              rw [huj] at h1
              exact Nat.lt_of_lt_of_le h1 (Nat.pow_le_pow_right (by omega) (by omega))
            have HUJ := hid huj
            rw [huj]
            clear huj
            go_wp2_with fail
            refine (rmore_any uj hul _).mono ?_
            rintro e w3 ⟨rfl, rfl⟩
            by_cases hbe : beh uj = j
            · have hg : getP (x :: r) = (uj, j + 1) := by
                rw [getP, HK.out, if_neg (by have := HR.out; omega), HV0.out, HUJ.out, if_pos hbe]
              rw [hbe]
              have HG := hid hg
              clear hg
              go_wp2_with fail
              exact bodyPost_ret (v := .tuple #[.int .u64 uj, .int .i64 ((j : Int) + 1)]) (by simp [results, Tryz.results139, go_sem]) rfl ⟨by rw [HG.out]; rfl, hkp.out⟩
            · have hg : getP (x :: r) = (0, 0) := by
                rw [getP, HK.out, if_neg (by have := HR.out; omega), HV0.out, HUJ.out, if_neg hbe]
              have hne : (((beh uj : Nat) : Int) != (j : Int)) = true := by simp; omega
              have HG := hid hg
              clear hg
              go_wp2_with fail
              exact bodyPost_ret (v := .tuple #[.int .u64 0, .int .i64 0]) (by simp [results, Tryz.results139, go_sem]) rfl ⟨by rw [HG.out]; rfl, hkp.out⟩
end Go.Proofs.YtodledidabdkaaaGreatDoor

namespace Go.Proofs.YtodledidabdkaaaGreatDoor
open Go.RowKit
set_option linter.unusedVariables false
set_option linter.unusedSimpArgs false
set_option maxRecDepth 100000 in
set_option maxHeartbeats 1000000 in
theorem qpass_any (q : Nat) (xs : By) (b : Bool) (n : Nat) (hle : n ≤ xs.length) (w : World) (h : Rg q xs b w) :
    Calls Tryz.prog 126 #[.pointer (some ⟨q, 0, none⟩), .int .i64 n] w fun e w' => e = .returned (.bool (!b && !decide (n = 0))) ∧ Rg q (rdX xs b n).1 (rdX xs b n).2 w' ∧ Kp (fun k => k ≠ q) w w' := by
  obtain ⟨v, ty, hc, hf, hl⟩ := h
  obtain ⟨A, c, rfl, hcap, hS⟩ := rb_shape hf
  have HF := hid hf; have HS := hid hS; have HC := hid hc
  have c0 := blk_cell hc
  have f0 := blk_free hc
  have hq := blk_lt hc
  clear hf hS hc
  have kq1 : ∀ (u v : Value) (i j : Nat), Kp (fun k => k ≠ q) w ((w.setCell ⟨q, i, none⟩ u).setCell ⟨q, j, none⟩ v) := fun u v i j => ((Kp.refl _ _).setOut (by simp) _).setOut (by simp) _
  have kq2 : ∀ (u : Value) (i : Nat), Kp (fun k => k ≠ q) w (w.setCell ⟨q, i, none⟩ u) := fun u i => (Kp.refl _ _).setOut (by simp) _
  have KQ1 := hid kq1; have KQ2 := hid kq2
  clear kq1 kq2
  cases b with
  | true =>
    go_enter Tryz.func126, Tryz.ntmps126
    go_wp2_with fail
    go_ret
    refine ⟨rfl, ?_, KQ1.out _ _ _ _⟩
    rw [rdX, if_pos (Or.inl rfl)]
    exact ⟨.slice none 0 0, ty, by rw [blk_set (blk_set HC.out 1 _) 0]; simp, rb_empty, by simp⟩
  | false =>
    by_cases hn : n = 0
    · have d0 : ((n : Int) == 0) = true := by simp [hn]
      go_enter Tryz.func126, Tryz.ntmps126
      go_wp2_with fail
      go_ret
      refine ⟨by simp [hn], ?_, KQ1.out _ _ _ _⟩
      rw [rdX, if_pos (Or.inr hn)]
      exact ⟨.slice none 0 0, ty, by rw [blk_set (blk_set HC.out 1 _) 0]; simp, rb_empty, by simp⟩
    · have d0 : ((n : Int) == 0) = false := by simp [hn]
      obtain ⟨m, hm⟩ : ∃ m, xs.length = m := ⟨_, rfl⟩
      have HM := hid hm
      rw [hm] at hle hcap c0
      have j1 : (n : Int) ≤ (m : Int) := by omega
      have j2 : (0 : Int) ≤ (n : Int) := by omega
      have j3 : (m : Int) ≤ (c : Int) := by omega
      have hnb : ¬ (false = true ∨ n = 0) := by simp [hn]
      have HNN := hid hn
      obtain ⟨_, _, h3⟩ := HS.out.now
      obtain ⟨bk, o, eA, _⟩ := h3 (by omega)
      subst eA
      clear h3 hm hn
      go_enter Tryz.func126, Tryz.ntmps126
      have hcc : c = n ∨ c ≠ n := by omega
      refine or2 hcc ?cA ?cB
      case' cA =>
        intro hc1
        have hrb : Foot (fun k => k < q) (Rb (.slice (some ⟨bk, o, none⟩) 0 0) (xs.drop n)) w := by
          rw [List.drop_eq_nil_of_le (by rw [HM.out]; omega)]
          exact rb_empty
        obtain rfl : m = n := by omega
        subst hc1
        have HRB := hid hrb
        clear hrb
        go_wp2_with fail
      case' cB =>
        intro hc1
        have hrb := rb_drop HS.out (by rw [HM.out]; exact hle) hc1
        rw [HM.out] at hrb
        have HRB := hid hrb
        clear hrb
        go_wp2_with fail
      all_goals (
        go_ret
        refine ⟨by simp [HNN.out], ?_, KQ2.out _ _⟩
        rw [rdX, if_neg hnb]
        refine ⟨_, ty, by rw [blk_set HC.out 0]; rfl, HRB.out.step ((KQ2.out _ _).mono fun k _ hk => Nat.ne_of_lt hk), ?_⟩
        rw [List.length_drop]
        omega)
set_option maxRecDepth 100000 in
set_option maxHeartbeats 2000000 in
theorem rgettext_any (v : Value) (xs : By) (w : World) (h : Foot All (Rb v xs) w) (hl : xs.length ≤ 9000000000000000000) :
    Calls Tryz.prog 127 #[v] w fun e w' => e = .returned (.tuple #[.string (getT xs).1, .int .i64 ((getT xs).2 : Nat)]) ∧ Kp All w w' := by
  obtain ⟨A, c, rfl, hs0⟩ := h.now
  have H := hid h
  have hcap : xs.length ≤ c := hs0.2.1
  clear hs0 h
  obtain ⟨n, hn⟩ : ∃ n, xs.length = n := ⟨_, rfl⟩
  have hatl := getP_le xs
  have hnum := getP_lt xs
  obtain ⟨⟨u, at_⟩, hg⟩ : ∃ q, getP xs = q := ⟨_, rfl⟩
  rw [hg] at hatl hnum
  rw [hn] at hcap hl hatl ⊢
  dsimp only at hatl hnum
  have HN := hid hn; have HG := hid hg
  clear hn hg
  go_enter Tryz.func127, Tryz.ntmps127
  go_wp2_with fail
  refine (rget_any _ xs _ (by have h := H.out; rw [HN.out] at h; exact h) (by rw [HN.out]; exact hl)).mono ?_
  rintro e w1 ⟨rfl, hk1⟩
  rw [HG.out]
  dsimp only
  have HK1 := hid hk1
  clear hk1
  by_cases h0 : at_ = 0
  · have d0 : ((at_ : Int) == 0) = true := by simp [h0]
    have ht : getT xs = (⟨#[]⟩, 0) := by rw [getT, HG.out, if_pos (Or.inl h0)]
    go_wp2_with fail
    exact bodyPost_ret (v := .tuple #[.string ⟨#[]⟩, .int .i64 0]) (by simp [results, Tryz.results127, go_sem]) rfl ⟨by rw [ht]; rfl, HK1.out⟩
  · have d0 : ((at_ : Int) == 0) = false := by simp [h0]
    have hsb : IntKind.i64.wrap ((n : Int) - (at_ : Int)) = ((n - at_ : Nat) : Int) := by rw [IntKind.wrap_i64]; omega
    have hcu : IntKind.u64.wrap ((n - at_ : Nat) : Int) = ((n - at_ : Nat) : Int) := by rw [wrap64u]; omega
    by_cases hu : n - at_ < u
    · have d1 : decide ((u : Int) > ((n - at_ : Nat) : Int)) = true := decide_eq_true (by omega)
      have ht : getT xs = (⟨#[]⟩, 0) := by rw [getT, HG.out, if_pos (Or.inr (by rw [HN.out]; exact hu))]
      go_wp2_with fail
      exact bodyPost_ret (v := .tuple #[.string ⟨#[]⟩, .int .i64 0]) (by simp [results, Tryz.results127, go_sem]) rfl ⟨by rw [ht]; rfl, HK1.out⟩
    · have d1 : decide ((u : Int) > ((n - at_ : Nat) : Int)) = false := decide_eq_false (by omega)
      have ht : getT xs = (strOfB ((xs.drop at_).take u), at_ + u) := by rw [getT, HG.out, if_neg (by rw [HN.out]; simp only; omega)]
      have HT := hid ht
      have hui : IntKind.i64.wrap (u : Int) = (u : Int) := IntWalk.i64_in _ (by omega)
      have hsum : IntKind.i64.wrap ((at_ : Int) + (u : Int)) = ((at_ + u : Nat) : Int) := by rw [IntKind.wrap_i64]; omega
      have j1 : (0 : Int) ≤ (at_ : Int) := by omega
      have j2 : (at_ : Int) ≤ ((at_ + u : Nat) : Int) := by omega
      have j3 : ((at_ + u : Nat) : Int) ≤ (c : Int) := by omega
      have hcc : c = at_ ∨ c ≠ at_ := by omega
      clear ht
      obtain ⟨A', c', e, hS⟩ := (H.out.step HK1.out).now
      injection e with e1 e2 e3
      subst e1 e3
      rw [HN.out] at hS
      obtain ⟨hS1, hS2, hS3⟩ := hS
      obtain ⟨b, o, eA, hr⟩ := hS3 (by omega)
      subst eA
      have hlen : ((xs.drop at_).take u).length = u := by rw [List.length_take, List.length_drop, HN.out]; omega
      refine or2 hcc ?cA ?cB
      case' cA =>
        intro hc1
        have hrb : Rb (.slice (some ⟨b, o, none⟩) u 0) ((xs.drop at_).take u) w1 := ⟨_, _, by rw [hlen], by rw [hlen]; exact ⟨by simpa using hlen, by omega, fun h => by omega⟩⟩
      case' cB =>
        intro hc1
        have hrb : Rb (.slice (some ⟨b, o + at_, none⟩) u (c - at_)) ((xs.drop at_).take u) w1 := ⟨_, _, by rw [hlen], by rw [hlen]; exact ⟨by simpa using hlen, by omega, fun h => ⟨b, o + at_, rfl, fun j z hj => by
          have hz : (u8s xs)[at_ + j]? = some z := by
            rw [u8s, List.getElem?_map] at hj ⊢
            rw [List.getElem?_take] at hj
            split at hj
            · rwa [List.getElem?_drop] at hj
            · cases hj
          have := hr _ _ hz
          rwa [show o + (at_ + j) = o + at_ + j from by omega] at this⟩⟩⟩
      all_goals (
        have hcv := run_conv_row hrb
        clear hrb hr hS1 hS2 hS3
        go_wp2_with fail
        exact bodyPost_ret (v := .tuple #[.string (strOfB ((xs.drop at_).take u)), .int .i64 ((at_ : Int) + (u : Int))]) (by simp [results, Tryz.results127, go_sem, strOfB]) rfl ⟨by rw [HT.out]; rfl, HK1.out⟩)
set_option maxRecDepth 100000 in
theorem qnum_any (q : Nat) (xs : By) (b : Bool) (w : World) (h : Rg q xs b w) :
    Calls Tryz.prog 125 #[.pointer (some ⟨q, 0, none⟩)] w (Rdone q xs b (getP xs).2 (.int .u64 (getP xs).1) (.int .u64 0) w) := by
  have H := hid h
  obtain ⟨v, ty, hc, hf, hl⟩ := h
  have c0 := blk_cell hc
  have HG := hid (rget_any v xs w (hf.mono fun _ _ _ => trivial) hl)
  have hle := getP_le xs
  obtain ⟨⟨u, n⟩, hg⟩ : ∃ g, getP xs = g := ⟨_, rfl⟩
  rw [hg] at HG hle ⊢
  dsimp only at HG hle ⊢
  clear hf hc hg
  go_enter Tryz.func125, Tryz.ntmps125
  go_wp2_with fail
  refine HG.out.mono ?_
  rintro e w1 ⟨rfl, hk1⟩
  have HK1 := hid hk1
  have HP := hid (qpass_any q xs b n hle w1 (H.out.all hk1))
  clear hk1
  by_cases hb : b = true ∨ n = 0
  · have hv : (!b && !decide (n = 0)) = false := by rcases hb with h | h <;> simp [h]
    rw [hv] at HP
    have HB := hid hb
    clear hv hb
    go_wp2_with fail
    refine HP.out.mono ?_
    rintro e w2 ⟨rfl, h2, hk2⟩
    have H2 := hid h2; have HK2 := hid (HK1.out.all.trans hk2)
    clear h2 hk2
    go_wp2_with fail
    go_ret
    exact ⟨by rw [if_pos HB.out]; rfl, H2.out, HK2.out⟩
  · have hv : (!b && !decide (n = 0)) = true := by
      cases b with
      | true => exact absurd (.inl rfl) hb
      | false => simp; exact fun h => hb (.inr h)
    rw [hv] at HP
    have HB := hid hb
    clear hv hb
    go_wp2_with fail
    refine HP.out.mono ?_
    rintro e w2 ⟨rfl, h2, hk2⟩
    have H2 := hid h2; have HK2 := hid (HK1.out.all.trans hk2)
    clear h2 hk2
    go_wp2_with fail
    go_ret
    exact ⟨by rw [if_neg HB.out]; rfl, H2.out, HK2.out⟩
set_option maxRecDepth 100000 in
theorem qtext_any (q : Nat) (xs : By) (b : Bool) (w : World) (h : Rg q xs b w) :
    Calls Tryz.prog 93 #[.pointer (some ⟨q, 0, none⟩)] w (Rdone q xs b (getT xs).2 (.string (getT xs).1) (.string ⟨#[]⟩) w) := by
  have H := hid h
  obtain ⟨v, ty, hc, hf, hl⟩ := h
  have c0 := blk_cell hc
  have HG := hid (rgettext_any v xs w (hf.mono fun _ _ _ => trivial) hl)
  have hle := getT_le xs
  obtain ⟨⟨u, n⟩, hg⟩ : ∃ g, getT xs = g := ⟨_, rfl⟩
  rw [hg] at HG hle ⊢
  dsimp only at HG hle ⊢
  clear hf hc hg
  go_enter Tryz.func93, Tryz.ntmps93
  go_wp2_with fail
  refine HG.out.mono ?_
  rintro e w1 ⟨rfl, hk1⟩
  have HK1 := hid hk1
  have HP := hid (qpass_any q xs b n hle w1 (H.out.all hk1))
  clear hk1
  by_cases hb : b = true ∨ n = 0
  · have hv : (!b && !decide (n = 0)) = false := by rcases hb with h | h <;> simp [h]
    rw [hv] at HP
    have HB := hid hb
    clear hv hb
    go_wp2_with fail
    refine HP.out.mono ?_
    rintro e w2 ⟨rfl, h2, hk2⟩
    have H2 := hid h2; have HK2 := hid (HK1.out.all.trans hk2)
    clear h2 hk2
    go_wp2_with fail
    go_ret
    exact ⟨by rw [if_pos HB.out]; rfl, H2.out, HK2.out⟩
  · have hv : (!b && !decide (n = 0)) = true := by
      cases b with
      | true => exact absurd (.inl rfl) hb
      | false => simp; exact fun h => hb (.inr h)
    rw [hv] at HP
    have HB := hid hb
    clear hv hb
    go_wp2_with fail
    refine HP.out.mono ?_
    rintro e w2 ⟨rfl, h2, hk2⟩
    have H2 := hid h2; have HK2 := hid (HK1.out.all.trans hk2)
    clear h2 hk2
    go_wp2_with fail
    go_ret
    exact ⟨by rw [if_neg HB.out]; rfl, H2.out, HK2.out⟩
theorem rzag_bits (u : Nat) (hu : u < 2 ^ 64) : bits BinOp.or IntKind.u64 ((u : Int) / 2) (IntKind.u64.wrap ((u : Int) * 9223372036854775808)) = ((u / 2 + u % 2 * 9223372036854775808 : Nat) : Int) := by
  have e1 : IntKind.u64.wrap ((u : Int) * 9223372036854775808) = ((u % 2 * 9223372036854775808 : Nat) : Int) := by
    show ((u : Int) * 9223372036854775808) % 18446744073709551616 = _
    omega
  rw [e1, show (u : Int) / 2 = ((u / 2 : Nat) : Int) by omega, u64_or_nat _ _ (by omega) (by omega), Nat.or_comm]
  have := Nat.two_pow_add_eq_or_of_lt (i := 63) (b := u / 2) (by omega) (u % 2)
  congr 1
  rw [show u % 2 * 9223372036854775808 = 2 ^ 63 * (u % 2) by omega, ← this]
  omega
theorem zagP_alt (u : Nat) (hu : u < 2 ^ 64) : IntKind.i64.wrap ((u / 2 + u % 2 * 9223372036854775808 : Nat) : Int) = zagP u := by
  rw [IntKind.wrap_i64]
  unfold zagP
  omega
set_option maxRecDepth 100000 in
theorem qcount_any (q : Nat) (xs : By) (b : Bool) (most : Nat) (hm : most ≤ 9000000000000000000) (w : World) (h : Rg q xs b w) :
    Calls Tryz.prog 92 #[.pointer (some ⟨q, 0, none⟩), .int .i64 most] w fun e w' => e = .returned (.int .i64 (cntX xs b most).1) ∧ Rg q (cntX xs b most).2.1 (cntX xs b most).2.2 w' ∧ Kp (fun k => k ≠ q) w w' := by
  have H := hid h
  clear h
  have hmu : IntKind.u64.wrap (most : Int) = (most : Int) := by rw [wrap64u]; omega
  have hm0 : decide ((most : Int) < 0) = false := decide_eq_false (by omega)
  by_cases hb : b = true ∨ (getP xs).2 = 0
  · have hx : cntX xs b most = (0, [], true) := by
      rw [cntX, if_pos]; rcases hb with h | h
      · exact .inl h
      · exact .inr (.inl h)
    have hr : rdX xs b (getP xs).2 = ([], true) := by rw [rdX, if_pos hb]
    have HX := hid hx; have HR := hid hr; have HB := hid hb
    clear hx hr hb
    go_enter Tryz.func92, Tryz.ntmps92
    go_wp2_with fail
    refine (qnum_any q xs b _ H.out).mono ?_
    rintro e w1 ⟨he, h1, h2⟩
    rw [if_pos HB.out] at he
    subst he
    rw [HR.out] at h1
    have H1 := hid h1; have H2 := hid h2
    clear h1 h2
    go_wp2_with fail
    go_ret
    rw [HX.out]
    exact ⟨rfl, H1.out, H2.out⟩
  · obtain ⟨⟨u, n⟩, hg⟩ : ∃ g, getP xs = g := ⟨_, rfl⟩
    have hr : rdX xs b (getP xs).2 = (xs.drop n, false) := by rw [rdX, if_neg hb, hg]
    have hul := getP_lt xs
    rw [hg] at hul
    dsimp only at hul
    by_cases hu : most < u
    · have hx : cntX xs b most = (0, [], true) := by rw [cntX, if_pos (by rw [hg]; exact .inr (.inr hu))]
      have d1 : decide ((u : Int) > (most : Int)) = true := decide_eq_true (by omega)
      have HX := hid hx; have HR := hid hr; have HB := hid hb; have HG := hid hg
      clear hx hr hb hg
      go_enter Tryz.func92, Tryz.ntmps92
      go_wp2_with fail
      refine (qnum_any q xs b _ H.out).mono ?_
      rintro e w1 ⟨he, h1, h2⟩
      rw [if_neg HB.out, HG.out] at he
      rw [HR.out] at h1
      dsimp only at h1 he
      subst he
      have H1 := hid h1; have H2 := hid h2
      clear h1 h2
      go_wp2_with fail
      refine (qpass_any q (xs.drop n) false 0 (Nat.zero_le _) w1 H1.out).mono ?_
      rintro e w2 ⟨rfl, h3, h4⟩
      have H3 := hid h3; have H4 := hid (H2.out.trans h4)
      clear h3 h4
      go_wp2_with fail
      go_ret
      rw [HX.out]
      exact ⟨rfl, H3.out, H4.out⟩
    · have hx : cntX xs b most = (u, xs.drop n, false) := by
        rw [cntX, if_neg, hg]
        rw [hg]
        rintro (h | h | h)
        · exact hb (.inl h)
        · exact hb (.inr (by rw [hg]; exact h))
        · exact hu h
      have d1 : decide ((u : Int) > (most : Int)) = false := decide_eq_false (by omega)
      have hui : IntKind.i64.wrap (u : Int) = (u : Int) := IntWalk.i64_in _ (by omega)
      have HX := hid hx; have HR := hid hr; have HB := hid hb; have HG := hid hg
      clear hx hr hb hg
      go_enter Tryz.func92, Tryz.ntmps92
      go_wp2_with fail
      refine (qnum_any q xs b _ H.out).mono ?_
      rintro e w1 ⟨he, h1, h2⟩
      rw [if_neg HB.out, HG.out] at he
      rw [HR.out] at h1
      dsimp only at h1 he
      subst he
      have H1 := hid h1; have H2 := hid h2
      clear h1 h2
      go_wp2_with fail
      go_ret
      rw [HX.out]
      exact ⟨rfl, H1.out, H2.out⟩
set_option maxRecDepth 100000 in
theorem qend_any (q : Nat) (xs : By) (b : Bool) (w : World) (h : Rg q xs b w) :
    Calls Tryz.prog 94 #[.pointer (some ⟨q, 0, none⟩)] w fun e w' => e = .returned (.bool (!b && xs.length == 0)) ∧ w' = w := by
  obtain ⟨v, ty, hc, hf, hl⟩ := h
  obtain ⟨A, c, rfl, hcap, hS⟩ := rb_shape hf
  have c0 := blk_cell hc
  clear hf hS hc
  obtain ⟨m, hm⟩ : ∃ m, xs.length = m := ⟨_, rfl⟩
  rw [hm] at c0 ⊢
  cases b with
  | true =>
    go_enter Tryz.func94, Tryz.ntmps94
    go_wp2_with fail
    go_ret
    exact ⟨rfl, rfl⟩
  | false =>
    by_cases h0 : m = 0
    · have d0 : ((m : Int) == 0) = true := by simp [h0]
      go_enter Tryz.func94, Tryz.ntmps94
      go_wp2_with fail
      go_ret
      exact ⟨by simp [h0], rfl⟩
    · have d0 : ((m : Int) == 0) = false := by simp [h0]
      go_enter Tryz.func94, Tryz.ntmps94
      go_wp2_with fail
      go_ret
      exact ⟨by simp [h0], rfl⟩
/-! ### Over a state -/
theorem qtext_s (q : Nat) (s : Sx) (w : World) (h : Rs q s w) : Calls Tryz.prog 93 #[.pointer (some ⟨q, 0, none⟩)] w fun e w' => e = .returned (.string (tV s)) ∧ Rs q (tX s) w' ∧ Kp (fun k => k ≠ q) w w' := by
  refine (qtext_any q s.1 s.2 w h).mono ?_
  rintro e w' ⟨rfl, h1, h2⟩
  exact ⟨by rw [tV]; split <;> rfl, h1, h2⟩
end Go.Proofs.YtodledidabdkaaaGreatDoor
