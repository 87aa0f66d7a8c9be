/- The codec's Zag, GetText and GetBool: walked once each. No condition but that the row is not great. -/
import Derived.Test.YtkipijdbkkcioaaCV
import Derived.Test.YtkipijdbkkcioaaCE
namespace Go.Proofs.Ytkipijdbkkcioaa
open Go.RowKit
set_option linter.unusedVariables false
set_option linter.unusedSimpArgs false
def zagP (u : Nat) : Int := ((u / 2 : Nat) : Int) - ((u % 2 : Nat) : Int) * 9223372036854775808
theorem zag_zig (n : Int) (h1 : -9223372036854775808 ≤ n) (h2 : n ≤ 9223372036854775807) : zagP (zig n) = n := by
  unfold zagP zig
  split <;> omega
theorem zag_bits (u : Nat) (hu : u < 2 ^ 64) : IntKind.i64.wrap (bits BinOp.or IntKind.u64 (IntKind.u64.wrap ((u : Int) * 9223372036854775808)) ((u : Int) / 2)) = zagP u := by
  have e1 : IntKind.u64.wrap ((u : Int) * 9223372036854775808) = (((u % 2) * 2 ^ 63 : Nat) : Int) := by
    show ((u : Int) * 9223372036854775808) % 18446744073709551616 = _
    omega
  have e2 : (u : Int) / 2 = ((u / 2 : Nat) : Int) := by omega
  rw [e1, e2, u64_or_nat _ _ (by omega) (by omega)]
  have h := Nat.two_pow_add_eq_or_of_lt (i := 63) (b := u / 2) (by omega) (u % 2)
  rw [Nat.mul_comm] at h
  rw [← h]
  unfold zagP
  rw [IntKind.wrap_i64]
  omega
set_option maxRecDepth 100000 in
theorem zag_any (u : Nat) (hu : u < 2 ^ 64) (w : World) :
    Calls Try.prog 58 #[.int .u64 u] w fun e w' => e = .returned (.int .i64 (zagP u)) ∧ w = w' := by
  have hb1 : bits BinOp.and IntKind.u64 (IntKind.u64.wrap (-1)) 63 = 63 := by decide +kernel
  have e := zag_bits u hu
  have E := hid e
  clear e
  go_enter Try.func58, Try.ntmps58
  go_wp2
  go_ret
  have E' := E.out
  rw [IntWalk.i64_left] at E'
  clear E
  refine ⟨?_, rfl⟩
  rw [E']
  rfl
/-- What GetText tells. -/
def getT (xs : By) : ByteArray × Nat := if (getP xs).2 = 0 ∨ xs.length - (getP xs).2 < (getP xs).1 then (⟨#[]⟩, 0) else (strOfB ((xs.drop (getP xs).2).take (getP xs).1), (getP xs).2 + (getP xs).1)
theorem getP_le (xs : By) : (getP xs).2 ≤ xs.length := by
  cases xs with
  | nil => exact Nat.le_refl _
  | cons x r =>
    rw [getP]
    split
    · exact Nat.zero_le _
    · split
      · simp only [List.length_cons]; omega
      · exact Nat.zero_le _
theorem getP_lt (xs : By) : (getP xs).1 < 2 ^ 64 := by
  cases xs with
  | nil => decide
  | cons x r =>
    rw [getP]
    have hx := x.toNat_lt
    obtain ⟨h8, hv, _⟩ := lead_facts ⟨x.toNat, hx⟩
    simp only at h8 hv
    split
    · decide
    · split
      · have h1 := getFold_lt (r.take (lead x.toNat)) hv
        have h2 : (r.take (lead x.toNat)).length ≤ lead x.toNat := by rw [List.length_take]; omega
        exact Nat.lt_of_lt_of_le h1 (Nat.pow_le_pow_right (by omega) (by omega))
      · decide
theorem getT_enc (s : ByteArray) (r : By) (hs : s.size < 2 ^ 64) : getT (encText s ++ r) = (s, (encText s).length) := by
  have hg : getP (encText s ++ r) = (s.size, beh s.size + 1) := by
    rw [encText, List.append_assoc]
    exact getP_enc _ hs _
  have hsz : s.data.toList.length = s.size := Array.length_toList ..
  have hl : (encText s ++ r).length = beh s.size + 1 + s.size + r.length := by
    simp only [encText, List.length_append, enc_len, hsz]
  have hd : (encText s ++ r).drop (beh s.size + 1) = s.data.toList ++ r := by
    rw [encText, List.append_assoc]
    exact drop_enc _ _
  rw [getT, hg]
  simp only
  rw [if_neg (by rw [hl]; omega), hd, ← hsz, List.take_left, hsz]
  have e1 : strOfB s.data.toList = s := by simp [strOfB]
  have e2 : (encText s).length = beh s.size + 1 + s.size := by simp only [encText, List.length_append, enc_len, hsz]
  rw [e1, e2]
set_option maxRecDepth 100000 in
set_option maxHeartbeats 2000000 in
theorem gettext_any (v : Value) (xs : By) (w : World) (h : Foot All (Rb v xs) w) (hl : xs.length ≤ 9000000000000000000) :
    Calls Try.prog 61 #[v] w fun e w' => e = .returned (.tuple #[.string (getT xs).1, .int .i64 ((getT xs).2 : Nat)]) ∧ Kp All w w' := by
  obtain ⟨A, c, rfl, hs0⟩ := h.now
  have H := hid h
  have hcap : xs.length ≤ c := hs0.2.1
  clear hs0 h
  obtain ⟨n, hn⟩ : ∃ n, xs.length = n := ⟨_, rfl⟩
  have hatl := getP_le xs
  have hnum := getP_lt xs
  obtain ⟨⟨u, at_⟩, hg⟩ : ∃ q, getP xs = q := ⟨_, rfl⟩
  rw [hg] at hatl hnum
  rw [hn] at hcap hl hatl ⊢
  dsimp only at hatl hnum
  have HN := hid hn; have HG := hid hg
  clear hn hg
  go_enter Try.func61, Try.ntmps61
  go_wp2_with fail
  refine (get_any _ xs _ (by have h := H.out; rw [HN.out] at h; exact h) (by rw [HN.out]; exact hl)).mono ?_
  rintro e w1 ⟨rfl, hk1⟩
  rw [HG.out]
  dsimp only
  have HK1 := hid hk1
  clear hk1
  by_cases h0 : at_ = 0
  · have d0 : ((at_ : Int) == 0) = true := by simp [h0]
    have ht : getT xs = (⟨#[]⟩, 0) := by rw [getT, HG.out, if_pos (Or.inl h0)]
    go_wp2_with fail
    exact bodyPost_ret (v := .tuple #[.string ⟨#[]⟩, .int .i64 0]) (by simp [results, Try.results61, go_sem]) rfl ⟨by rw [ht]; rfl, HK1.out⟩
  · have d0 : ((at_ : Int) == 0) = false := by simp [h0]
    have hsb : IntKind.i64.wrap ((n : Int) - (at_ : Int)) = ((n - at_ : Nat) : Int) := by rw [IntKind.wrap_i64]; omega
    have hcu : IntKind.u64.wrap ((n - at_ : Nat) : Int) = ((n - at_ : Nat) : Int) := by rw [wrap64u]; omega
    by_cases hu : n - at_ < u
    · have d1 : decide ((u : Int) > ((n - at_ : Nat) : Int)) = true := decide_eq_true (by omega)
      have ht : getT xs = (⟨#[]⟩, 0) := by rw [getT, HG.out, if_pos (Or.inr (by rw [HN.out]; exact hu))]
      go_wp2_with fail
      exact bodyPost_ret (v := .tuple #[.string ⟨#[]⟩, .int .i64 0]) (by simp [results, Try.results61, go_sem]) rfl ⟨by rw [ht]; rfl, HK1.out⟩
    · have d1 : decide ((u : Int) > ((n - at_ : Nat) : Int)) = false := decide_eq_false (by omega)
      have ht : getT xs = (strOfB ((xs.drop at_).take u), at_ + u) := by rw [getT, HG.out, if_neg (by rw [HN.out]; simp only; omega)]
      have HT := hid ht
      have hui : IntKind.i64.wrap (u : Int) = (u : Int) := IntWalk.i64_in _ (by omega)
      have hsum : IntKind.i64.wrap ((at_ : Int) + (u : Int)) = ((at_ + u : Nat) : Int) := by rw [IntKind.wrap_i64]; omega
      have j1 : (0 : Int) ≤ (at_ : Int) := by omega
      have j2 : (at_ : Int) ≤ ((at_ + u : Nat) : Int) := by omega
      have j3 : ((at_ + u : Nat) : Int) ≤ (c : Int) := by omega
      have hcc : c = at_ ∨ c ≠ at_ := by omega
      clear ht
      obtain ⟨A', c', e, hS⟩ := (H.out.step HK1.out).now
      injection e with e1 e2 e3
      subst e1 e3
      rw [HN.out] at hS
      obtain ⟨hS1, hS2, hS3⟩ := hS
      obtain ⟨b, o, eA, hr⟩ := hS3 (by omega)
      subst eA
      have hlen : ((xs.drop at_).take u).length = u := by rw [List.length_take, List.length_drop, HN.out]; omega
      refine or2 hcc ?cA ?cB
      case' cA =>
        intro hc1
        have hrb : Rb (.slice (some ⟨b, o, none⟩) u 0) ((xs.drop at_).take u) w1 := ⟨_, _, by rw [hlen], by rw [hlen]; exact ⟨by simpa using hlen, by omega, fun h => by omega⟩⟩
      case' cB =>
        intro hc1
        have hrb : Rb (.slice (some ⟨b, o + at_, none⟩) u (c - at_)) ((xs.drop at_).take u) w1 := ⟨_, _, by rw [hlen], by rw [hlen]; exact ⟨by simpa using hlen, by omega, fun h => ⟨b, o + at_, rfl, fun j z hj => by
          have hz : (u8s xs)[at_ + j]? = some z := by
            rw [u8s, List.getElem?_map] at hj ⊢
            rw [List.getElem?_take] at hj
            split at hj
            · rwa [List.getElem?_drop] at hj
            · cases hj
          have := hr _ _ hz
          rwa [show o + (at_ + j) = o + at_ + j from by omega] at this⟩⟩⟩
      all_goals (
        have hcv := run_conv_row hrb
        clear hrb hr hS1 hS2 hS3
        go_wp2_with fail
        exact bodyPost_ret (v := .tuple #[.string (strOfB ((xs.drop at_).take u)), .int .i64 ((at_ : Int) + (u : Int))]) (by simp [results, Try.results61, go_sem, strOfB]) rfl ⟨by rw [HT.out]; rfl, HK1.out⟩)
/-- What GetBool tells. -/
def getB : By → Bool × Nat
  | [] => (false, 0)
  | x :: _ => if x.toNat = 84 ∨ x.toNat = 70 then (x.toNat == 84, 1) else (false, 0)
theorem getB_enc (b : Bool) (r : By) : getB (encBool b ++ r) = (b, 1) := by cases b <;> rfl
set_option maxRecDepth 100000 in
theorem getbool_any (v : Value) (xs : By) (w : World) (h : Foot All (Rb v xs) w) :
    Calls Try.prog 78 #[v] w fun e w' => e = .returned (.tuple #[.bool (getB xs).1, .int .i64 ((getB xs).2 : Nat)]) ∧ Kp All w w' := by
  obtain ⟨A, c, rfl, hs0⟩ := h.now
  cases xs with
  | nil =>
    clear hs0
    go_enter Try.func78, Try.ntmps78
    go_wp2_with fail
    exact bodyPost_ret (v := .tuple #[.bool false, .int .i64 0]) (by simp [results, Try.results78, go_sem]) rfl ⟨rfl, Kp.refl _ _⟩
  | cons x r =>
    obtain ⟨n, hn⟩ : ∃ n, (x :: r).length = n := ⟨_, rfl⟩
    have hrn : r.length + 1 = n := hn
    obtain ⟨_, _, h3⟩ := hs0
    obtain ⟨b, o, eA, hr⟩ := h3 (by simp)
    subst eA
    rw [hn]
    have p0 : w.cell? ⟨b, o, none⟩ = some (.int .u8 x.toNat) := hr 0 _ rfl
    have z0 : (0 : Int) < (n : Int) := by omega
    have dn : ((n : Int) == 0) = false := by simp; omega
    have hx := x.toNat_lt
    clear hr h h3 hn
    obtain ⟨y, hy⟩ : ∃ y, x.toNat = y := ⟨_, rfl⟩
    have HY := hid hy
    rw [hy] at p0 hx
    clear hy
    by_cases h84 : y = 84
    · subst h84
      have hg : getB (x :: r) = (true, 1) := by rw [getB, HY.out]; rfl
      have HG := hid hg
      clear hg
      go_enter Try.func78, Try.ntmps78
      go_wp2_with fail
      exact bodyPost_ret (v := .tuple #[.bool true, .int .i64 1]) (by simp [results, Try.results78, go_sem]) rfl ⟨by rw [HG.out]; rfl, Kp.refl _ _⟩
    · by_cases h70 : y = 70
      · subst h70
        have hg : getB (x :: r) = (false, 1) := by rw [getB, HY.out]; rfl
        have HG := hid hg
        clear hg
        go_enter Try.func78, Try.ntmps78
        go_wp2_with fail
        exact bodyPost_ret (v := .tuple #[.bool false, .int .i64 1]) (by simp [results, Try.results78, go_sem]) rfl ⟨by rw [HG.out]; rfl, Kp.refl _ _⟩
      · have hg : getB (x :: r) = (false, 0) := by rw [getB, HY.out, if_neg (by omega)]
        have HG := hid hg
        have e1 : (((y : Nat) : Int) != 84) = true := by simp; omega
        have e2 : (((y : Nat) : Int) != 70) = true := by simp; omega
        clear hg
        go_enter Try.func78, Try.ntmps78
        go_wp2_with fail
        exact bodyPost_ret (v := .tuple #[.bool false, .int .i64 0]) (by simp [results, Try.results78, go_sem]) rfl ⟨by rw [HG.out]; rfl, Kp.refl _ _⟩
end Go.Proofs.Ytkipijdbkkcioaa
