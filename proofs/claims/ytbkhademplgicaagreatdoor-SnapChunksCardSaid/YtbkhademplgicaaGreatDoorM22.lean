/- The document's Digits, Count, Name, Index: walked once each. No condition. Plain: the document's Count tells what the program's Index tells. No condition. The document's Count (behind "snap-") and Index: walked once each. No condition but that the name is not great. -/
import Derived.Test.YtbkhademplgicaaGreatDoorM19
set_option linter.unusedVariables false
set_option linter.unusedSimpArgs false
namespace Go.Proofs.YtbkhademplgicaaGreatDoor
open Go.RowKit
set_option linter.unusedVariables false
set_option linter.unusedSimpArgs false
theorem dec_small {m : Nat} (h : m / 10 = 0) : Lib.decDigits m = [UInt8.ofNat (48 + m % 10)] := by
  rw [Lib.decDigits_one (by omega), Nat.mod_eq_of_lt (by omega)]
theorem dec_big {m : Nat} (h : ¬ m / 10 = 0) : Lib.decDigits m = Lib.decDigits (m / 10) ++ [UInt8.ofNat (48 + m % 10)] := by
  rw [Lib.decDigits, dif_neg (by omega)]
theorem strOfB_append (a b : By) : strOfB a ++ strOfB b = strOfB (a ++ b) := by
  apply ByteArray.ext
  rw [ByteArray.data_append]
  simp [strOfB]
set_option maxRecDepth 100000 in
set_option maxHeartbeats 1000000 in
theorem rdigits_any (n : Nat) (hn : n ≤ 999999999) (w : World) :
    Calls Tryz.prog 51 #[.int .i64 n] w fun e w' => e = .returned (.string (strOfB (Lib.decDigits n))) ∧ Kp All w w' := by
  go_enter Tryz.func51, Tryz.ntmps51
  go_wp2_with fail
  go_loopw [0, 3] (fun i s wr => ∃ (m : Nat) (t : By), m ≤ 999999999 ∧ i = .int .i64 m ∧ s = .string (strOfB t) ∧ Hid (Lib.decDigits n = Lib.decDigits m ++ t) ∧ t.length + (Lib.decDigits m).length ≤ 9 ∧ Hid (Kp All w wr)) (fun i _ _ => (intOf i).toNat)
  case atStart => exact ⟨n, [], hn, rfl, rfl, hid (by simp), by have := dec_len9 n hn; simpa using this, hid (Kp.refl _ _)⟩
  case round =>
    obtain ⟨m, t, hm, rfl, rfl, hd, hlen, hK⟩ := hrel
    obtain ⟨y, hy⟩ : ∃ y, UInt8.ofNat (48 + m % 10) = y := ⟨_, rfl⟩
    have hyi : (48 + (m : Int) % 10) = ((y.toNat : Nat) : Int) := by rw [← hy, UInt8.toNat_ofNat']; omega
    have hcv : (convert 25 9 (.slice (some ⟨wr.heap.size, 0, none⟩) 1 1)).run Tryz.prog (wr.alloc (.cells #[.int .u8 (48 + (m : Int) % 10)] 5)) = .ok (.string (strOfB [y])) (wr.alloc (.cells #[.int .u8 (48 + (m : Int) % 10)] 5)) := by
      rw [hyi]
      exact run_conv_row ⟨_, 1, rfl, sl_new1 _ _ _⟩
    have hs1 : (strOfB [y]).size = 1 := rfl
    have hs2 : (strOfB t).size = t.length := by simp [strOfB, ByteArray.size]
    have hsz : (strOfB [y]).size + (strOfB t).size ≤ 9223372036854775807 := by rw [hs1, hs2]; omega
    have HAP := hid (strOfB_append [y] t)
    have kA := Kp.al wr (.cells #[.int .u8 (48 + (m : Int) % 10)] 5)
    have HKA := hid (hK.out.trans kA)
    have HY := hid hy
    have HS1 := hid hs1; have HS2 := hid hs2
    clear hyi hy kA hs1 hs2
    by_cases h0 : m / 10 = 0
    · have d0 : ((m : Int) / 10 == 0) = true := by simp; omega
      go_wp2_with fail
      go_ret
      refine ⟨?_, HKA.out⟩
      rw [hd.out, dec_small h0, HY.out, ← strOfB_append]
      rfl
    · have d0 : ((m : Int) / 10 == 0) = false := by simp; omega
      go_wp2_with fail
      refine ⟨⟨m / 10, [y] ++ t, by omega, by go_num, by rw [HAP.out], hid ?_, ?_, HKA⟩, ?_⟩
      · rw [hd.out, dec_big h0, HY.out, List.append_assoc]
      · have h1 := hlen
        rw [dec_big h0, List.length_append] at h1
        simp only [List.length_append, List.length_cons, List.length_nil] at h1 ⊢
        omega
      · simp [intOf]; omega
theorem rname_any (n : Int) (h0 : -9223372036854775808 ≤ n) (h1 : n ≤ 9223372036854775807) (w : World) :
    Calls Tryz.prog 18 #[.int .i64 n] w fun e w' => e = .returned (.string (snName n)) ∧ Kp All w w' := by
  by_cases a : n < 1
  · have d1 : decide (n < 1) = true := decide_eq_true a
    have HN := hid (show snName n = ⟨#[]⟩ by rw [snName, if_pos (.inl a)])
    rw [HN.out]
    go_enter Tryz.func18, Tryz.ntmps18
    go_wp2_with fail
    go_ret
    exact ⟨rfl, Kp.refl _ _⟩
  have d1 : decide (n < 1) = false := decide_eq_false a
  by_cases b : 999999999 < n
  · have d2 : decide (999999999 < n) = true := decide_eq_true b
    have HN := hid (show snName n = ⟨#[]⟩ by rw [snName, if_pos (.inr b)])
    rw [HN.out]
    go_enter Tryz.func18, Tryz.ntmps18
    go_wp2_with fail
    go_ret
    exact ⟨rfl, Kp.refl _ _⟩
  have d2 : decide (999999999 < n) = false := decide_eq_false b
  obtain ⟨m, rfl⟩ : ∃ m : Nat, n = m := ⟨n.toNat, by omega⟩
  have hlen := dec_len9 m (by omega)
  have HN := hid (show snName (m : Int) = strOfB pre5 ++ strOfB (Lib.decDigits m) by
    rw [snName_eq (by omega) (by omega), strOfB_append]; rfl)
  rw [HN.out]
  have hs1 : (strOfB pre5).size = 5 := rfl
  have hs2 : (strOfB (Lib.decDigits m)).size ≤ 9 := by simpa [strOfB, ByteArray.size] using hlen
  have hsz : (5 : Nat) + (strOfB (Lib.decDigits m)).size ≤ 9223372036854775807 := by omega
  have hsz2 : ¬ (9223372036854775807 < 5 + (strOfB (Lib.decDigits m)).size) := by omega
  go_enter Tryz.func18, Tryz.ntmps18
  go_wp2_with fail
  refine (rdigits_any m (by omega) _).mono ?_
  rintro e w1 ⟨rfl, hk1⟩
  have HK1 := hid hk1
  clear hk1
  go_wp2_with fail
  go_ret
  exact ⟨rfl, HK1.out⟩
end Go.Proofs.YtbkhademplgicaaGreatDoor

namespace Go.Proofs.YtbkhademplgicaaGreatDoor
open Go.RowKit
set_option linter.unusedVariables false
set_option linter.unusedSimpArgs false
/-- The number of digits. -/
def valP : Nat → By → Option Nat
  | a, [] => some a
  | a, c :: r => if c.toNat < 48 ∨ 57 < c.toNat then none else valP (10 * a + (c.toNat - 48)) r
theorem valP_append (a : Nat) (l r : By) : valP a (l ++ r) = (valP a l).bind fun b => valP b r := by
  induction l generalizing a with
  | nil => rfl
  | cons c l ih =>
    rw [List.cons_append, valP, valP]
    split
    · rfl
    · exact ih _
theorem valP_dec (u : Nat) : valP 0 (Lib.decDigits u) = some u := by
  induction u using Nat.strongRecOn with
  | _ u ih =>
    by_cases h : u < 10
    · rw [Lib.decDigits_one h]
      have e : (UInt8.ofNat (48 + u)).toNat = 48 + u := by rw [UInt8.toNat_ofNat']; omega
      rw [valP, e, if_neg (by omega), valP]
      congr 1; omega
    · rw [Lib.decDigits, dif_neg h, valP_append, ih (u / 10) (by omega)]
      have e : (UInt8.ofNat (48 + u % 10)).toNat = 48 + u % 10 := by rw [UInt8.toNat_ofNat']; omega
      show valP (u / 10) [_] = _
      rw [valP, e, if_neg (by omega), valP]
      congr 1; omega
theorem valP_lt {l : By} : ∀ {a b k : Nat}, valP a l = some b → a < 10 ^ k → b < 10 ^ (k + l.length) := by
  induction l with
  | nil => intro a b k h ha; injection h with h; subst h; exact ha
  | cons c l ih =>
    intro a b k h ha
    rw [valP] at h
    split at h
    · cases h
    · next hc =>
      have := ih (k := k + 1) h (by rw [Nat.pow_succ]; omega)
      rw [List.length_cons, show k + (l.length + 1) = k + 1 + l.length by omega]
      exact this
def countP (s : Nm) : Int × Bool := if s.size ≤ 5 ∨ 14 < s.size ∨ s.data.toList.take 5 ≠ pre5 then (0, false) else match valP 0 (s.data.toList.drop 5) with
  | none => (0, false)
  | some m => if m < 1 ∨ strOfB (pre5 ++ Lib.decDigits m) ≠ s then (0, false) else ((m : Int), true)
theorem snIndex_false {s : Nm} (h : (snIndex s).2 = false) : snIndex s = (0, false) := by
  unfold snIndex at h ⊢
  split
  · next hp =>
    rw [if_pos hp] at h
    split
    · rfl
    · next hl =>
      rw [if_neg hl] at h
      split
      · next v hv =>
        rw [hv] at h
        dsimp only at h
        split
        · next h2 => rw [if_pos h2] at h; cases h
        · rfl
      · rfl
  · rfl
theorem countP_true {s : Nm} {n : Int} (h : countP s = (n, true)) : 1 ≤ n ∧ n ≤ 999999999 ∧ snName n = s := by
  unfold countP at h
  split at h
  · injection h with _ h; cases h
  next h0 =>
  split at h
  · injection h with _ h; cases h
  next m hm =>
  split at h
  · injection h with _ h; cases h
  next h1 =>
  injection h with h _
  subst h
  have hl : (s.data.toList.drop 5).length ≤ 9 := by
    rw [List.length_drop, Array.length_toList]
    have : s.data.size = s.size := rfl
    omega
  have hlt := valP_lt (k := 0) hm (by omega)
  have h9 : 10 ^ (0 + (s.data.toList.drop 5).length) ≤ 10 ^ 9 := Nat.pow_le_pow_right (by omega) (by omega)
  have e9 : (10 : Nat) ^ 9 = 1000000000 := by decide
  have hm9 : m ≤ 999999999 := by omega
  refine ⟨by omega, by omega, ?_⟩
  rw [snName_eq (by omega) (by omega)]
  by_cases hs : strOfB (pre5 ++ Lib.decDigits m) = s
  · exact hs
  · exact absurd (.inr hs) h1
theorem countP_name {n : Int} (h1 : 1 ≤ n) (h2 : n ≤ 999999999) : countP (snName n) = (n, true) := by
  have e := snName_eq h1 h2
  have hl := dec_len9 n.toNat (by omega)
  have hne := dec_ne n.toNat
  have hp : 0 < (Lib.decDigits n.toNat).length := List.length_pos_iff.2 hne
  have hd : (snName n).data.toList = pre5 ++ Lib.decDigits n.toNat := by rw [e]
  have hsz : (snName n).size = 5 + (Lib.decDigits n.toNat).length := by
    have h3 : (snName n).size = (snName n).data.toList.length := by rw [Array.length_toList]; rfl
    rw [h3, hd, List.length_append]; rfl
  have h5 : pre5.length = 5 := rfl
  unfold countP
  rw [if_neg]
  · rw [hd, List.drop_left' h5, valP_dec]
    dsimp only
    rw [if_neg]
    · congr 1; omega
    · rintro (h | h)
      · omega
      · exact h e.symm
  · rw [hd, hsz, List.take_left' h5]
    rintro (h | h | h)
    · omega
    · omega
    · exact h rfl
theorem countP_eq (s : Nm) : countP s = snIndex s := by
  cases h : (snIndex s).2 with
  | true =>
    obtain ⟨h1, h2, h3⟩ := snIndex_true (s := s) (n := (snIndex s).1) (by rw [← h])
    rw [← h1, countP_name h2 h3, snIndex_name h2 h3]
  | false =>
    rw [snIndex_false h]
    cases hc : (countP s).2 with
    | true =>
      obtain ⟨h1, h2, h3⟩ := countP_true (s := s) (n := (countP s).1) (by rw [← hc])
      rw [← h3, snIndex_name h1 h2] at h
      cases h
    | false =>
      unfold countP at hc ⊢
      split
      · rfl
      · next h0 =>
        rw [if_neg h0] at hc
        split
        · rfl
        · next m hm =>
          rw [hm] at hc
          dsimp only at hc
          split
          · rfl
          · next h1 => rw [if_neg h1] at hc; cases hc
end Go.Proofs.YtbkhademplgicaaGreatDoor

namespace Go.Proofs.YtbkhademplgicaaGreatDoor
open Go.RowKit
set_option linter.unusedVariables false
set_option linter.unusedSimpArgs false
set_option maxRecDepth 100000 in
set_option maxHeartbeats 1000000 in
theorem rcount11_any (s : Nm) (hs : s.size ≤ 1000000) (w : World) :
    Calls Tryz.prog 48 #[.string s, .string (⟨#[115, 110, 97, 112, 45]⟩ : ByteArray)] w fun e w' => e = .returned (.tuple #[.int .i64 (countP s).1, .bool (countP s).2]) ∧ Kp All w w' := by
  by_cases h1 : s.size ≤ 5
  · have d1 : decide ((s.size : Int) ≤ 5) = true := decide_eq_true (by omega)
    have hc : countP s = (0, false) := by rw [countP, if_pos (.inl h1)]
    have HC := hid hc
    go_enter Tryz.func48, Tryz.ntmps48
    go_wp2_with fail
    exact bodyPost_ret (v := .tuple #[.int .i64 0, .bool false]) (by simp [results, Tryz.results48, go_sem]) rfl ⟨by rw [HC.out], Kp.refl _ _⟩
  have d1 : decide ((s.size : Int) ≤ 5) = false := decide_eq_false (by omega)
  by_cases h2 : 14 < s.size
  · have d2 : decide (14 < (s.size : Int)) = true := decide_eq_true (by omega)
    have hc : countP s = (0, false) := by rw [countP, if_pos (.inr (.inl h2))]
    have HC := hid hc
    go_enter Tryz.func48, Tryz.ntmps48
    go_wp2_with fail
    exact bodyPost_ret (v := .tuple #[.int .i64 0, .bool false]) (by simp [results, Tryz.results48, go_sem]) rfl ⟨by rw [HC.out], Kp.refl _ _⟩
  have d2 : decide (14 < (s.size : Int)) = false := decide_eq_false (by omega)
  have ex : (s.extract 0 5).toList = s.data.toList.take 5 := by rw [ByteArray.toList_eq, ByteArray.data_extract]; simp
  by_cases h3 : s.data.toList.take 5 = pre5
  case neg =>
    have d3 : (!(s.extract 0 5).toList == [115, 110, 97, 112, 45]) = true := by
      rw [ex]
      have : (s.data.toList.take 5 == [115, 110, 97, 112, 45]) = false := beq_eq_false_iff_ne.2 h3
      rw [this]; rfl
    have hc : countP s = (0, false) := by rw [countP, if_pos (.inr (.inr h3))]
    have HC := hid hc
    clear ex h3 hc
    go_enter Tryz.func48, Tryz.ntmps48
    go_wp2_with fail
    exact bodyPost_ret (v := .tuple #[.int .i64 0, .bool false]) (by simp [results, Tryz.results48, go_sem]) rfl ⟨by rw [HC.out], Kp.refl _ _⟩
  have d3 : (!(s.extract 0 5).toList == [115, 110, 97, 112, 45]) = false := by rw [ex, h3]; rfl
  obtain ⟨lst, hlst⟩ : ∃ lst, s.data.toList.drop 5 = lst := ⟨_, rfl⟩
  have hll : lst.length = s.size - 5 := by rw [← hlst, List.length_drop, Array.length_toList]; rfl
  have hnt : ¬ (s.size ≤ 5 ∨ 14 < s.size ∨ s.data.toList.take 5 ≠ pre5) := by rintro (h | h | h); exact h1 h; exact h2 h; exact h h3
  have HCN := hid (fun (h : valP 0 lst = none) => (show countP s = (0, false) by rw [countP, if_neg hnt, hlst, h]))
  have HCS := hid (fun (m : Nat) (h : valP 0 lst = some m) => (show countP s = if m < 1 ∨ strOfB (pre5 ++ Lib.decDigits m) ≠ s then (0, false) else ((m : Int), true) by rw [countP, if_neg hnt, hlst, h]))
  have hat : ∀ k (h : k < s.size), 5 ≤ k → lst[k - 5]? = some s[k] := fun k h h5 => by
    rw [← hlst, List.getElem?_drop, show 5 + (k - 5) = k by omega, Array.getElem?_toList]
    exact Array.getElem?_eq_getElem h
  have HAT := hid hat; have HLL := hid hll
  clear ex h3 hlst hll hat hnt
  go_enter Tryz.func48, Tryz.ntmps48
  go_wp2_with fail
  go_loopw [6, 7] (fun n i wr => ∃ k m : Nat, 5 ≤ k ∧ k ≤ s.size ∧ i = .int .i64 k ∧ n = .int .i64 m ∧ Hid (valP 0 (lst.take (k - 5)) = some m) ∧ m ≤ 999999999 ∧ wr = w) (fun _ i _ => s.size - (intOf i).toNat)
  case atStart => exact ⟨5, 0, Nat.le_refl _, by omega, rfl, rfl, hid rfl, by omega, rfl⟩
  case round =>
    obtain ⟨k, m, hk5, hk, rfl, rfl, hv, hm, rfl⟩ := hrel
    by_cases hlt : k < s.size
    · have hb0 : decide ((k : Int) < (s.size : Int)) = true := decide_eq_true (by omega)
      have i0 : (0 : Int) ≤ (k : Int) := by omega
      have i1 : (k : Int) < (s.size : Int) := by omega
      have hx := HAT.out k hlt hk5
      have hxl := s[k].toNat_lt
      by_cases hbad : s[k].toNat < 48 ∨ 57 < s[k].toNat
      · have hn : valP 0 lst = none := by
          have e : lst = lst.take (k - 5) ++ s[k] :: lst.drop (k - 5 + 1) := by
            rw [← drop_cons hx, List.take_append_drop]
          rw [e, valP_append, hv.out]
          show valP m _ = none
          rw [valP, if_pos hbad]
        have HC := hid (HCN.out hn)
        by_cases hb1 : s[k].toNat < 48
        · have d4 : decide (((s[k].toNat : Nat) : Int) < 48) = true := decide_eq_true (by omega)
          clear hx hn hbad hb1 hxl
          go_wp2_with fail
          exact bodyPost_ret (v := .tuple #[.int .i64 0, .bool false]) (by simp [results, Tryz.results48, go_sem]) rfl ⟨by rw [HC.out], Kp.refl _ _⟩
        · have d4 : decide (((s[k].toNat : Nat) : Int) < 48) = false := decide_eq_false (by omega)
          have d5 : decide (57 < ((s[k].toNat : Nat) : Int)) = true := decide_eq_true (by omega)
          clear hx hn hbad hb1 hxl
          go_wp2_with fail
          exact bodyPost_ret (v := .tuple #[.int .i64 0, .bool false]) (by simp [results, Tryz.results48, go_sem]) rfl ⟨by rw [HC.out], Kp.refl _ _⟩
      · have d4 : decide (((s[k].toNat : Nat) : Int) < 48) = false := decide_eq_false (by omega)
        have d5 : decide (57 < ((s[k].toNat : Nat) : Int)) = false := decide_eq_false (by omega)
        have hn : valP 0 (lst.take (k + 1 - 5)) = some (10 * m + (s[k].toNat - 48)) := by
          rw [show k + 1 - 5 = (k - 5) + 1 by omega, List.take_add_one, hx, valP_append, hv.out]
          show valP m [_] = _
          rw [valP, if_neg hbad, valP]
        have hm2 : 10 * m + (s[k].toNat - 48) ≤ 999999999 := by
          have h5 := valP_lt (k := 0) hn (by omega)
          have h6 : (lst.take (k + 1 - 5)).length ≤ 9 := by rw [List.length_take, HLL.out]; omega
          have h9 : 10 ^ (0 + (lst.take (k + 1 - 5)).length) ≤ 10 ^ 9 := Nat.pow_le_pow_right (by omega) (by omega)
          have e9 : (10 : Nat) ^ 9 = 1000000000 := by decide
          omega
        have HNV := hid hn
        have j1 : (48 : Int) ≤ ((s[k].toNat : Nat) : Int) := by omega
        have j2 : ((s[k].toNat : Nat) : Int) ≤ 57 := by omega
        clear hx hn hbad hxl
        go_wp2_with fail
        refine ⟨⟨k + 1, 10 * m + (s[k].toNat - 48), by omega, by omega, by go_num, ?_, HNV, hm2, trivial⟩, by simp [intOf]; omega⟩
        go_num
    · have hb0 : decide ((k : Int) < (s.size : Int)) = false := decide_eq_false (by omega)
      obtain rfl : k = s.size := by omega
      have hv2 : valP 0 lst = some m := by
        have := hv.out
        rwa [List.take_of_length_le (by rw [HLL.out]; exact Nat.le_refl _)] at this
      have HC := hid (HCS.out m hv2)
      clear hv2
      by_cases hm1 : m < 1
      · have d4 : decide ((m : Int) < 1) = true := decide_eq_true (by omega)
        go_wp2_with fail
        exact bodyPost_ret (v := .tuple #[.int .i64 0, .bool false]) (by simp [results, Tryz.results48, go_sem]) rfl ⟨by rw [HC.out, if_pos (.inl hm1)], Kp.refl _ _⟩
      have d4 : decide ((m : Int) < 1) = false := decide_eq_false (by omega)
      have hlen := dec_len9 m hm
      have hs2 : (strOfB (Lib.decDigits m)).size ≤ 9 := by simpa [strOfB, ByteArray.size] using hlen
      have hsz : (5 : Nat) + (strOfB (Lib.decDigits m)).size ≤ 9223372036854775807 := by omega
      have hsz2 : ¬ (9223372036854775807 < 5 + (strOfB (Lib.decDigits m)).size) := by omega
      go_wp2_with fail
      refine (rdigits_any m hm _).mono ?_
      rintro e w1 ⟨rfl, hk1⟩
      have HK1 := hid hk1
      clear hk1
      have e5 : ((⟨#[115, 110, 97, 112, 45]⟩ : ByteArray) ++ strOfB (Lib.decDigits m)) = strOfB (pre5 ++ Lib.decDigits m) := strOfB_append pre5 _
      by_cases he : strOfB (pre5 ++ Lib.decDigits m) = s
      · have d6 : (!((⟨#[115, 110, 97, 112, 45]⟩ : ByteArray) ++ strOfB (Lib.decDigits m)).toList == s.toList) = false := by rw [e5, he]; simp
        have HE := hid he
        clear he e5
        go_wp2_with fail
        exact bodyPost_ret (v := .tuple #[.int .i64 m, .bool true]) (by simp [results, Tryz.results48, go_sem]) rfl ⟨by rw [HC.out, if_neg (by rintro (h | h); exact hm1 h; exact h HE.out)], HK1.out⟩
      · have d6 : (!((⟨#[115, 110, 97, 112, 45]⟩ : ByteArray) ++ strOfB (Lib.decDigits m)).toList == s.toList) = true := by
          rw [e5]
          have : ((strOfB (pre5 ++ Lib.decDigits m)).toList == s.toList) = false := beq_eq_false_iff_ne.2 (bs_ne he)
          rw [this]; rfl
        have HE := hid he
        clear he e5
        go_wp2_with fail
        exact bodyPost_ret (v := .tuple #[.int .i64 0, .bool false]) (by simp [results, Tryz.results48, go_sem]) rfl ⟨by rw [HC.out, if_pos (.inr HE.out)], HK1.out⟩
theorem rindex_any (s : Nm) (hs : s.size ≤ 1000000) (w : World) :
    Calls Tryz.prog 15 #[.string s] w fun e w' => e = .returned (.tuple #[.int .i64 (snIndex s).1, .bool (snIndex s).2]) ∧ Kp All w w' := by
  have HC := hid (rcount11_any s hs w)
  rw [countP_eq] at HC
  go_enter Tryz.func15, Tryz.ntmps15
  go_wp2_with fail
  refine HC.out.mono ?_
  rintro e w1 ⟨rfl, hk1⟩
  have HK1 := hid hk1
  clear hk1
  go_wp2_with fail
  exact bodyPost_ret (v := .tuple #[.int .i64 (snIndex s).1, .bool (snIndex s).2]) (by simp [results, Tryz.results15, go_sem]) rfl ⟨rfl, HK1.out⟩
end Go.Proofs.YtbkhademplgicaaGreatDoor
