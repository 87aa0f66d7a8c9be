/- The codec's Get, walked once, and what it makes of a number's bytes. No condition but that the row is not great. -/
import Derived.Test.YtkipijdbkkcioaaCC
namespace Go.Proofs.Ytkipijdbkkcioaa
open Go.RowKit
set_option linter.unusedVariables false
set_option linter.unusedSimpArgs false
def lead (x : Nat) : Nat := 8 - Lib.bitLen (255 - x)
def getFold (v : Nat) (l : By) : Nat := l.foldl (fun u x => u * 256 + x.toNat) v
/-- What Get tells: the number, how many bytes it has; (0, 0): none. -/
def getP : By → Nat × Nat
  | [] => (0, 0)
  | x :: r => if r.length < lead x.toNat then (0, 0) else if beh (getFold (x.toNat % 2 ^ (8 - lead x.toNat)) (r.take (lead x.toNat))) = lead x.toNat then (getFold (x.toNat % 2 ^ (8 - lead x.toNat)) (r.take (lead x.toNat)), lead x.toNat + 1) else (0, 0)
theorem lead_facts : ∀ x : Fin 256, lead x.val ≤ 8 ∧ x.val % 2 ^ (8 - lead x.val) < 2 ^ (7 - lead x.val) ∧ (x.val &&& (255 - (256 - 2 ^ (8 - lead x.val)))) = x.val % 2 ^ (8 - lead x.val) := by decide +kernel
theorem getFold_lt {v a : Nat} (l : By) (h : v < 2 ^ a) : getFold v l < 2 ^ (a + 8 * l.length) := by
  induction l generalizing v a with
  | nil => simpa [getFold] using h
  | cons x l ih =>
    have hx := x.toNat_lt
    have h1 : v * 256 + x.toNat < 2 ^ (a + 8) := by
      rw [Nat.pow_add]
      have : (v + 1) * 2 ^ 8 ≤ 2 ^ a * 2 ^ 8 := Nat.mul_le_mul_right _ h
      omega
    have := ih h1
    rw [List.length_cons, show a + 8 * (l.length + 1) = a + 8 + 8 * l.length from by omega]
    exact this
theorem getFold_take {v k : Nat} {l : By} {x : UInt8} (h : l[k]? = some x) : getFold v (l.take (k + 1)) = getFold v (l.take k) * 256 + x.toNat := by
  rw [List.take_add_one, h, getFold, List.foldl_append]; rfl
theorem or_byte (u : Nat) (x : UInt8) (hu : u * 256 < 2 ^ 64) : bits .or .u64 (IntKind.u64.wrap ((u : Int) * 256)) (x.toNat : Int) = ((u * 256 + x.toNat : Nat) : Int) := by
  have hx := x.toNat_lt
  have e : IntKind.u64.wrap ((u : Int) * 256) = ((u * 256 : Nat) : Int) := by
    show ((u : Int) * 256) % 18446744073709551616 = _
    omega
  rw [e, u64_or_nat _ _ (by omega) (by omega)]
  have := Nat.two_pow_add_eq_or_of_lt (i := 8) (b := x.toNat) (by omega) u
  congr 1
  rw [Nat.mul_comm]
  exact this.symm
theorem or_byte' (u : Nat) (x : UInt8) (hu : u * 256 < 2 ^ 64) : bits .or .u64 ((u : Int) * 256) (x.toNat : Int) = ((u * 256 + x.toNat : Nat) : Int) := by
  have h := or_byte u x hu
  have e : IntKind.u64.wrap ((u : Int) * 256) = (u : Int) * 256 := by
    show ((u : Int) * 256) % 18446744073709551616 = _
    omega
  rwa [e] at h
theorem tail_fold (u k : Nat) : ∀ v, v = u / 256 ^ k → ∀ j ≤ k, getFold v ((tailb u k).take j) = u / 256 ^ (k - j) := by
  intro v hv j
  induction j with
  | zero => intro _; simpa [getFold] using hv
  | succ j ih =>
    intro hj
    have hget : (tailb u k)[j]? = some (UInt8.ofNat (u / 256 ^ (k - j - 1))) := by
      clear ih hv
      induction k generalizing j with
      | zero => omega
      | succ k ih =>
        cases j with
        | zero => simp [tailb]
        | succ j =>
          rw [tailb, List.getElem?_cons_succ, ih j (by omega)]
          rw [show k + 1 - (j + 1) - 1 = k - j - 1 from by omega]
    rw [getFold_take hget, ih (by omega)]
    have e : k - j = (k - (j + 1)) + 1 := by omega
    rw [show k - j - 1 = k - (j + 1) from by omega]
    rw [e, Nat.pow_succ, ← Nat.div_div_eq_div_mul]
    have : (UInt8.ofNat (u / 256 ^ (k - (j + 1)))).toNat = u / 256 ^ (k - (j + 1)) % 256 := by simp
    rw [this]
    omega
theorem lead_first (u : Nat) (hu : u < 2 ^ 64) : lead (first u) = beh u ∧ first u % 2 ^ (8 - beh u) = u / 256 ^ beh u := by
  have h8 := beh_le u
  have hb := beh_lt u
  have key : ∀ k : Fin 8, ∀ v : Fin 128, v.val < 2 ^ (7 - k.val) → lead (256 - 2 ^ (8 - k.val) + v.val) = k.val ∧ (256 - 2 ^ (8 - k.val) + v.val) % 2 ^ (8 - k.val) = v.val := by decide +kernel
  by_cases h : beh u < 8
  · have h1 := hb h
    have h2 : u / 256 ^ beh u < 2 ^ (7 - beh u) := by
      rw [Nat.div_lt_iff_lt_mul (Nat.pow_pos (by omega)), show (256 : Nat) = 2 ^ 8 from rfl, ← Nat.pow_mul, ← Nat.pow_add]
      rwa [show 7 - beh u + 8 * beh u = 7 * (beh u + 1) from by omega]
    have h3 : 2 ^ (7 - beh u) ≤ 2 ^ 7 := Nat.pow_le_pow_right (by omega) (by omega)
    exact key ⟨beh u, h⟩ ⟨u / 256 ^ beh u, by omega⟩ h2
  · have e : beh u = 8 := by omega
    have h0 : u / 256 ^ 8 = 0 := Nat.div_eq_of_lt (by omega)
    rw [first, e, h0]
    decide +kernel
/-- The way back. -/
theorem getP_enc (u : Nat) (hu : u < 2 ^ 64) (r : By) : getP (enc u ++ r) = (u, beh u + 1) := by
  obtain ⟨h1, h2⟩ := lead_first u hu
  have hf := first_lt u hu
  have e : (UInt8.ofNat (first u)).toNat = first u := by simp; omega
  have ht : (tailb u (beh u) ++ r).take (beh u) = (tailb u (beh u)).take (beh u) := by
    rw [List.take_append_of_le_length (by rw [tailb_len]; exact Nat.le_refl _)]
  have hg := tail_fold u (beh u) _ rfl (beh u) (Nat.le_refl _)
  rw [enc, List.cons_append, getP, e, h1, h2, ht, hg, Nat.sub_self, Nat.pow_zero, Nat.div_one, if_neg (by rw [List.length_append, tailb_len]; omega), if_pos rfl]
theorem drop_enc (u : Nat) (r : By) : (enc u ++ r).drop (beh u + 1) = r := by
  rw [← enc_len, List.drop_left]
theorem lz8_any (x : Nat) (w : World) (h1 : x < 256) :
    Calls Try.prog 85 #[.int .u8 x] w fun e w' => e = .returned (.int .i64 (8 - (Lib.bitLen x : Int))) ∧ w' = w := Any.bits_LeadingZeros8 Try.lz8 x w (by omega) (by omega)
theorem or2 {a b P : Prop} (h : a ∨ b) (h1 : a → P) (h2 : b → P) : P := h.elim h1 h2
theorem xor_facts : ∀ x : Fin 256, bits .xor .u8 IntKind.u8.max (x.val : Int) = ((255 - x.val : Nat) : Int) := by decide +kernel
theorem getP_nil : getP [] = (0, 0) := rfl
set_option maxRecDepth 100000 in
set_option maxHeartbeats 2000000 in
theorem get_any (v : Value) (xs : By) (w : World) (h : Foot All (Rb v xs) w) (hl : xs.length ≤ 9000000000000000000) :
    Calls Try.prog 76 #[v] w fun e w' => e = .returned (.tuple #[.int .u64 ((getP xs).1 : Nat), .int .i64 ((getP xs).2 : Nat)]) ∧ Kp All w w' := by
  obtain ⟨A, c, rfl, _⟩ := h.now
  have H := hid (show Foot All (Sl A xs.length c 1 (u8s xs)) w from h.imp fun u hu => by
    obtain ⟨A', c', e, hs⟩ := hu
    injection e with e1 _ e2; subst e1 e2; exact hs)
  clear h
  cases xs with
  | nil =>
    go_enter Try.func76, Try.ntmps76
    go_wp2_with fail
    exact bodyPost_ret (v := .tuple #[.int .u64 0, .int .i64 0]) (by simp [results, Try.results76, go_sem]) rfl ⟨rfl, Kp.refl _ _⟩
  | cons x r =>
    obtain ⟨n, hn⟩ : ∃ n, (x :: r).length = n := ⟨_, rfl⟩
    have hrn : r.length + 1 = n := hn
    rw [hn] at hl ⊢
    obtain ⟨hc1, hc2, h3⟩ := H.out.now
    rw [hn] at hc2
    obtain ⟨b, o, eA, hr⟩ := h3 (by omega)
    subst eA
    have hx := x.toNat_lt
    have hat : ∀ j y, (x :: r)[j]? = some y → w.cell? ⟨b, o + j, none⟩ = some (.int .u8 y.toNat) := fun j y hj => hr j _ (by rw [u8s, List.getElem?_map, hj]; rfl)
    have p0 : w.cell? ⟨b, o, none⟩ = some (.int .u8 x.toNat) := hat 0 x rfl
    obtain ⟨k, hk⟩ : ∃ k, lead x.toNat = k := ⟨_, rfl⟩
    obtain ⟨hk8, hv, hand⟩ := lead_facts ⟨x.toNat, hx⟩
    simp only [hk] at hk8 hv hand
    have hbl : (8 - (Lib.bitLen (255 - x.toNat) : Int)) = (k : Nat) := by
      have h1 := Lib.bitLen_le8 ⟨255 - x.toNat, by omega⟩
      simp only at h1
      have h2 := hk
      unfold lead at h2
      omega
    have hxor : bits .xor .u8 IntKind.u8.max (x.toNat : Int) = ((255 - x.toNat : Nat) : Int) := xor_facts ⟨x.toNat, hx⟩
    have HXO := hid hxor
    have HN := hid hn; have HBL := hid hbl; have HAND := hid hand; have HV := hid hv; have HK := hid hk; have HAT := hid hat; have HRN := hid hrn
    have z0 : (0 : Int) < (n : Int) := by omega
    have dn : ((n : Int) == 0) = false := by simp; omega
    clear hn hbl hand hv hk hat hr hc1 h3 hrn hxor
    go_enter Try.func76, Try.ntmps76
    go_wp2_with fail
    rw [HXO.out]
    refine (lz8_any (255 - x.toNat) _ (by omega)).mono ?_
    rintro e w1 ⟨rfl, rfl⟩
    rw [HBL.out]
    by_cases hkn : n ≤ k
    · have d1 : decide ((n : Int) ≤ (k : Int)) = true := decide_eq_true (by omega)
      go_wp2_with fail
      have hg : getP (x :: r) = (0, 0) := by rw [getP, HK.out, if_pos (by have := HRN.out; omega)]
      exact bodyPost_ret (v := .tuple #[.int .u64 0, .int .i64 0]) (by simp [results, Try.results76, go_sem]) rfl ⟨by rw [hg]; rfl, Kp.refl _ _⟩
    · have d1 : decide ((n : Int) ≤ (k : Int)) = false := decide_eq_false (by omega)
      have i1 : (k : Int) + 1 ≤ (n : Int) := by omega
      have i2 : (1 : Int) ≤ (k : Int) + 1 := by omega
      have i3 : (n : Int) ≤ (c : Int) := by omega
      have i4 : (k : Int) + 1 ≤ (c : Int) := by omega
      have i5 : (0 : Int) ≤ (k : Int) + 1 := by omega
      have hwr : IntKind.i64.wrap ((k : Int) + 1) = (k : Int) + 1 := IntWalk.i64_in _ (by omega)
      have hVL := HV.out
      go_wp2_with fail
      have z1 : (0 : Int) < (n : Int) := by omega
      refine wp_region_quiet_lit (by kernel_rfl) (by kernel_rfl) ?_
      go_big_quiet_step (fail)
      go_big_quiet_step (fail)
      go_big_quiet_step (fail)
      go_big_quiet_step (fail)
      go_big_quiet_step ((go_at_call 74; refine (ones_any k hk8 _).mono ?_; rintro e w2 ⟨rfl, rfl⟩; exact ⟨rfl, _, rfl⟩))
      repeat (go_big_quiet_step (fail))
      refine wpQuiet_nil ?_
      intro _ hw'
      obtain ⟨nq, hw''⟩ := hw'
      subst hw''
      obtain ⟨v0, hv0⟩ : ∃ v0, x.toNat % 2 ^ (8 - k) = v0 := ⟨_, rfl⟩
      have HU0 : Hid (IntKind.u64.wrap (bits BinOp.andNot IntKind.u8 (x.toNat : Int) ((256 - 2 ^ (8 - k) : Nat) : Int)) = (v0 : Nat)) := hid (by
        have hp : 0 < 2 ^ (8 - k) := Nat.pow_pos (by omega)
        have h0 : v0 < 256 := by rw [← hv0]; exact Nat.lt_of_le_of_lt (Nat.mod_le _ _) hx
        rw [u8_andNot_nat _ _ (by omega) (by omega), HAND.out, hv0]
        show ((v0 : Int)) % 18446744073709551616 = _
        omega)
      rw [HU0.out]
      have hvb : v0 < 2 ^ (7 - k) := by rw [← hv0]; exact HV.out
      have HVB := hid hvb
      have HV0 := hid hv0
      have HKQ : Hid (Kp All w1 (w1.drewN nq)) := hid ((Kp.refl _ _).drewN _)
      obtain ⟨W2, hW2⟩ : ∃ W2, W2 = w1.drewN nq := ⟨_, rfl⟩
      rw [← hW2] at HKQ ⊢
      have HR := hid (show k ≤ r.length by have := HRN.out; omega)
      have HKA := hid (show Kp All w1 W2 from HKQ.out)
      clear hW2 HU0 hvb hv0 hVL p0
      have hcc : c = 1 ∨ c ≠ 1 := by omega
      refine or2 hcc ?cA ?cB
      case' cA =>
        intro hc1
        have HAT2 := hid (show ∀ j y, r[j]? = some y → j < k → w1.cell? ⟨b, o + j, none⟩ = some (.int .u8 y.toNat) from fun j y h hj => by omega)
        go_wp2_with fail
      case' cB =>
        intro hc1
        have HAT2 := hid (show ∀ j y, r[j]? = some y → j < k → w1.cell? ⟨b, o + 1 + j, none⟩ = some (.int .u8 y.toNat) from fun j y h hj => by
          have := HAT.out (j + 1) y (by simpa using h)
          rwa [show o + (j + 1) = o + 1 + j from by omega] at this)
        go_wp2_with fail
      all_goals (
        go_loopw [5, 32] (fun u i wr => ∃ j : Nat, j ≤ k ∧ i = .int .i64 j ∧ u = .int .u64 ((getFold v0 (r.take j) : Nat) : Int) ∧ Hid (Kp All w1 wr)) (fun _ i _ => k - (intOf i).toNat)
        case atStart => exact ⟨0, Nat.zero_le _, rfl, by simp [getFold], HKA⟩
        case round =>
          obtain ⟨j, hj, rfl, rfl, hkp⟩ := hrel
          by_cases hlt : j < k
          · have hb0 : decide ((j : Int) < (k : Int)) = true := decide_eq_true (by omega)
            obtain ⟨y, hy⟩ : ∃ y, r[j]? = some y := ⟨_, List.getElem?_eq_getElem (by have := HR.out; omega)⟩
            have q0 := hkp.out.cell (HAT2.out j y hy hlt) trivial
            have j0 : (0 : Int) ≤ (j : Int) := by omega
            have j1 : (j : Int) < (k : Int) := by omega
            have hfl := getFold_lt (r.take j) HVB.out
            have hub : getFold v0 (r.take j) * 256 < 2 ^ 64 := by
              have h1 : getFold v0 (r.take j) * 256 < 2 ^ (7 - k + 8 * (r.take j).length) * 2 ^ 8 := Nat.mul_lt_mul_of_pos_right hfl (by omega)
              rw [← Nat.pow_add] at h1
              have h2 : (r.take j).length ≤ j := by rw [List.length_take]; omega
              exact Nat.lt_of_lt_of_le h1 (Nat.pow_le_pow_right (by omega) (by omega))
            have HOR := hid (or_byte _ y hub)
            have HTK := hid (getFold_take (v := v0) hy)
            have HOQ := hid (or_byte' _ y hub)
            obtain ⟨uj, huj⟩ : ∃ uj, getFold v0 (r.take j) = uj := ⟨_, rfl⟩
            rw [huj] at HOR HTK HOQ ⊢
            clear hfl hub huj hy
            go_wp2_with fail
            have hy8 := y.toNat_lt
            have ew : IntKind.u64.wrap (y.toNat : Int) = (y.toNat : Int) := by
              show (y.toNat : Int) % 18446744073709551616 = _
              omega
            refine ⟨⟨j + 1, by omega, by go_num, by first | (rw [ew, HOR.out, HTK.out]) | (rw [HOQ.out, HTK.out]), hkp⟩, by simp [intOf]; omega⟩
          · have hb0 : decide ((j : Int) < (k : Int)) = false := decide_eq_false (by omega)
            obtain rfl : j = k := by omega
            obtain ⟨uj, huj⟩ : ∃ uj, getFold v0 (r.take j) = uj := ⟨_, rfl⟩
            have hul : uj < 2 ^ 64 := by
              have h1 := getFold_lt (r.take j) HVB.out
              have h2 : (r.take j).length ≤ j := by rw [List.length_take]; omega
              rw [huj] at h1
              exact Nat.lt_of_lt_of_le h1 (Nat.pow_le_pow_right (by omega) (by omega))
            have HUJ := hid huj
            rw [huj]
            clear huj
            go_wp2_with fail
            refine (behind_any uj hul _).mono ?_
            rintro e w3 ⟨rfl, rfl⟩
            by_cases hbe : beh uj = j
            · have hg : getP (x :: r) = (uj, j + 1) := by
                rw [getP, HK.out, if_neg (by have := HR.out; omega), HV0.out, HUJ.out, if_pos hbe]
              rw [hbe]
              have HG := hid hg
              clear hg
              go_wp2_with fail
              exact bodyPost_ret (v := .tuple #[.int .u64 uj, .int .i64 ((j : Int) + 1)]) (by simp [results, Try.results76, go_sem]) rfl ⟨by rw [HG.out]; rfl, hkp.out⟩
            · have hg : getP (x :: r) = (0, 0) := by
                rw [getP, HK.out, if_neg (by have := HR.out; omega), HV0.out, HUJ.out, if_neg hbe]
              have hne : (((beh uj : Nat) : Int) != (j : Int)) = true := by simp; omega
              have HG := hid hg
              clear hg
              go_wp2_with fail
              exact bodyPost_ret (v := .tuple #[.int .u64 0, .int .i64 0]) (by simp [results, Try.results76, go_sem]) rfl ⟨by rw [HG.out]; rfl, hkp.out⟩)
end Go.Proofs.Ytkipijdbkkcioaa
