/- Texts: the very same texts: walked once. No condition but that both rows lie. -/
import Derived.Test.YtdlbccjimdghkaaEL
import Derived.Test.YtdlbccjimdghkaaEM
import Derived.Test.YtdlbccjimdghkaaED
namespace Go.Proofs.Ytdlbccjimdghkaa
open Go.RowKit
set_option linter.unusedVariables false
theorem sl_at {A : Option Addr} {n c : Nat} {ks : List Nm} {w : World} (h : Sl A n c 1 (ks.map Value.string) w) {k : Nat} {s : Nm} (hs : ks[k]? = some s) : ∃ b o, A = some ⟨b, o, none⟩ ∧ w.cell? ⟨b, o + k, none⟩ = some (.string s) := by
  have hk := (List.getElem?_eq_some_iff.1 hs).1
  have hl := h.1
  rw [List.length_map, Nat.mul_one] at hl
  obtain ⟨b, o, e, hr⟩ := h.2.2 (by omega)
  exact ⟨b, o, e, hr k _ (by rw [List.getElem?_map, hs]; rfl)⟩
set_option maxRecDepth 100000 in
set_option maxHeartbeats 1000000 in
theorem texts_any (A B : Option Addr) (n c m d : Nat) (ks ls : List Nm) (r : Bool) (w : World) (h1 : Foot All (Sl A n c 1 (ks.map Value.string)) w) (h2 : Foot All (Sl B m d 1 (ls.map Value.string)) w) (hn : n ≤ 9223372036854775807) (hr : r = decide (ks = ls)) :
    Calls Try.prog 24 #[.slice A n c, .slice B m d] w (Boo r w) := by
  have H1 := hid h1; have H2 := hid h2
  have e1 : ks.length = n := by have := h1.now.1; rw [List.length_map, Nat.mul_one] at this; exact this
  have e2 : ls.length = m := by have := h2.now.1; rw [List.length_map, Nat.mul_one] at this; exact this
  have E1 := hid e1; have E2 := hid e2; have HR := hid hr
  clear h1 h2 e1 e2 hr
  by_cases hnm : n = m
  · subst hnm
    have hb : ((n : Int) == (n : Int)) = true := by simp
    go_enter Try.func24, Try.ntmps24
    go_wp2_with fail
    go_loopw [13] (fun i wr => ∃ k : Nat, k ≤ n ∧ i = .int .i64 k ∧ Hid (ks.take k = ls.take k) ∧ Hid (Kp All w wr)) (fun i _ => n - (intOf i).toNat)
    case atStart => exact ⟨0, Nat.zero_le _, rfl, by simp [Hid], Kp.refl _ _⟩
    case round =>
      obtain ⟨k, hk, rfl, heq, hkp⟩ := hrel
      by_cases hlt : k < n
      · have hb0 : decide ((k : Int) < (n : Int)) = true := decide_eq_true (by omega)
        have i0 : (0 : Int) ≤ (k : Int) := by omega
        have i1 : (k : Int) < (n : Int) := by omega
        obtain ⟨s, hs⟩ : ∃ s, ks[k]? = some s := ⟨_, List.getElem?_eq_getElem (by rw [E1.out]; exact hlt)⟩
        obtain ⟨t, ht⟩ : ∃ t, ls[k]? = some t := ⟨_, List.getElem?_eq_getElem (by rw [E2.out]; exact hlt)⟩
        obtain ⟨b1, o1, rfl, c1⟩ := sl_at (H1.out wr hkp.out) hs
        obtain ⟨b2, o2, rfl, c2⟩ := sl_at (H2.out wr hkp.out) ht
        have HSK := hid hs; have HTK := hid ht
        clear hs ht
        by_cases hst : s = t
        · subst hst
          go_wp2_with fail
          go_quiet (fail)
          go_wp2_with fail
          refine ⟨⟨k + 1, by omega, by go_num, ?_, hkp.out.drewN _⟩, by simp [intOf]; omega⟩
          exact hid (by rw [List.take_add_one, List.take_add_one, HSK.out, HTK.out, heq.out])
        · have hne1 := bs_ne hst
          have hne2 : (s.toList == t.toList) = false := beq_eq_false_iff_ne.2 hne1
          have HST := hid hst
          clear hst
          go_wp2_with fail
          go_quiet (fail)
          go_wp2_with fail
          go_ret
          have : r = false := by
            rw [HR.out]
            refine decide_eq_false fun e => HST.out ?_
            have h1 := HSK.out
            rw [e, HTK.out] at h1
            injection h1 with h1
            exact h1.symm
          exact ⟨by rw [this]; rfl, hkp.out.drewN _⟩
      · have hb0 : decide ((k : Int) < (n : Int)) = false := decide_eq_false (by omega)
        obtain rfl : k = n := by omega
        go_wp2_with fail
        go_ret
        have : r = true := by
          have h1 := heq.out
          rw [List.take_of_length_le (by rw [E1.out]; exact Nat.le_refl _), List.take_of_length_le (by rw [E2.out]; exact Nat.le_refl _)] at h1
          rw [HR.out]
          exact decide_eq_true h1
        exact ⟨by rw [this]; rfl, hkp.out⟩
  · have hb : ((n : Int) == (m : Int)) = false := beq_eq_false_iff_ne.2 (by omega)
    have hb' : ¬ (n : Int) = (m : Int) := by omega
    have HNM := hid hnm
    clear hnm
    go_enter Try.func24, Try.ntmps24
    go_wp2_with fail
    go_ret
    have : r = false := by
      rw [HR.out]
      exact decide_eq_false fun e => HNM.out (by rw [← E1.out, ← E2.out, e])
    exact ⟨by rw [this]; rfl, Kp.refl _ _⟩
end Go.Proofs.Ytdlbccjimdghkaa
