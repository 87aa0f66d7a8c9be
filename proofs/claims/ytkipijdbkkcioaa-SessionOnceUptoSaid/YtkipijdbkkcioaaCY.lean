/- The codec's Reader: Num, Int, Text, Bool, Count, End: walked once each. No condition but that the bytes lie in a row that is not great. -/
import Derived.Test.YtkipijdbkkcioaaCX
namespace Go.Proofs.Ytkipijdbkkcioaa
open Go.RowKit
set_option linter.unusedVariables false
set_option linter.unusedSimpArgs false
theorem num_any (q : Nat) (xs : By) (b : Bool) (w : World) (h : Rg q xs b w) :
    Calls Try.prog 57 #[.pointer (some ⟨q, 0, none⟩)] w (Rdone q xs b (getP xs).2 (.int .u64 (getP xs).1) (.int .u64 0) w) := by
  go_enter Try.func57, Try.ntmps57
  go_wp2_with fail
  refine (readn_any q xs b _ h).mono ?_
  rintro e w1 ⟨he, h1, h2⟩
  obtain ⟨rv, hrv⟩ : ∃ rv : Value, (if b = true ∨ (getP xs).2 = 0 then .int .u64 0 else .int .u64 (getP xs).1) = rv := ⟨_, rfl⟩
  rw [hrv] at he
  subst he
  have HR := hid hrv; have H1 := hid h1; have H2 := hid h2
  clear hrv h1 h2
  go_wp2_with fail
  go_ret
  exact ⟨by rw [HR.out]; rfl, H1.out, H2.out⟩
theorem rtext_any (q : Nat) (xs : By) (b : Bool) (w : World) (h : Rg q xs b w) :
    Calls Try.prog 44 #[.pointer (some ⟨q, 0, none⟩)] w (Rdone q xs b (getT xs).2 (.string (getT xs).1) (.string ⟨#[]⟩) w) := by
  go_enter Try.func44, Try.ntmps44
  go_wp2_with fail
  refine (readt_any q xs b _ h).mono ?_
  rintro e w1 ⟨he, h1, h2⟩
  obtain ⟨rv, hrv⟩ : ∃ rv : Value, (if b = true ∨ (getT xs).2 = 0 then .string ⟨#[]⟩ else .string (getT xs).1) = rv := ⟨_, rfl⟩
  rw [hrv] at he
  subst he
  have HR := hid hrv; have H1 := hid h1; have H2 := hid h2
  clear hrv h1 h2
  go_wp2_with fail
  go_ret
  exact ⟨by rw [HR.out]; rfl, H1.out, H2.out⟩
theorem rbool_any (q : Nat) (xs : By) (b : Bool) (w : World) (h : Rg q xs b w) :
    Calls Try.prog 59 #[.pointer (some ⟨q, 0, none⟩)] w (Rdone q xs b (getB xs).2 (.bool (getB xs).1) (.bool false) w) := by
  go_enter Try.func59, Try.ntmps59
  go_wp2_with fail
  refine (readb_any q xs b _ h).mono ?_
  rintro e w1 ⟨he, h1, h2⟩
  obtain ⟨rv, hrv⟩ : ∃ rv : Value, (if b = true ∨ (getB xs).2 = 0 then .bool false else .bool (getB xs).1) = rv := ⟨_, rfl⟩
  rw [hrv] at he
  subst he
  have HR := hid hrv; have H1 := hid h1; have H2 := hid h2
  clear hrv h1 h2
  go_wp2_with fail
  go_ret
  exact ⟨by rw [HR.out]; rfl, H1.out, H2.out⟩
theorem rint_any (q : Nat) (xs : By) (b : Bool) (w : World) (h : Rg q xs b w) :
    Calls Try.prog 42 #[.pointer (some ⟨q, 0, none⟩)] w (Rdone q xs b (getP xs).2 (.int .i64 (zagP (getP xs).1)) (.int .i64 0) w) := by
  have hl := getP_lt xs
  obtain ⟨u, hu⟩ : ∃ u, (if b = true ∨ (getP xs).2 = 0 then 0 else (getP xs).1) = u := ⟨_, rfl⟩
  have hul : u < 2 ^ 64 := by rw [← hu]; split <;> omega
  have e1 : (if b = true ∨ (getP xs).2 = 0 then Value.int .u64 0 else .int .u64 (getP xs).1) = .int .u64 (u : Nat) := by rw [← hu]; split <;> rfl
  have e2 : (if b = true ∨ (getP xs).2 = 0 then Value.int .i64 0 else .int .i64 (zagP (getP xs).1)) = .int .i64 (zagP u) := by rw [← hu]; split <;> rfl
  have E1 := hid e1; have E2 := hid e2
  clear e1 e2 hu
  go_enter Try.func42, Try.ntmps42
  go_wp2_with fail
  refine (num_any q xs b _ h).mono ?_
  rintro e w1 ⟨he, h1, h2⟩
  rw [E1.out] at he
  subst he
  have H1 := hid h1; have H2 := hid h2
  clear h1 h2 h
  go_wp2_with fail
  refine (zag_any u hul _).mono ?_
  rintro e w2 ⟨rfl, rfl⟩
  go_wp2_with fail
  go_ret
  exact ⟨by rw [E2.out]; rfl, H1.out, H2.out⟩
/-- What Count tells, and leaves. -/
def cntX (xs : By) (b : Bool) (most : Nat) : Nat × By × Bool := if b = true ∨ (getP xs).2 = 0 ∨ most < (getP xs).1 then (0, [], true) else ((getP xs).1, xs.drop (getP xs).2, false)
set_option maxRecDepth 100000 in
theorem rcount_any (q : Nat) (xs : By) (b : Bool) (most : Nat) (hm : most ≤ 9000000000000000000) (w : World) (h : Rg q xs b w) :
    Calls Try.prog 41 #[.pointer (some ⟨q, 0, none⟩), .int .i64 most] w fun e w' => e = .returned (.int .i64 (cntX xs b most).1) ∧ Rg q (cntX xs b most).2.1 (cntX xs b most).2.2 w' ∧ Kp (fun k => k ≠ q) w w' := by
  have H := hid h
  clear h
  have hmu : IntKind.u64.wrap (most : Int) = (most : Int) := by rw [wrap64u]; omega
  by_cases hb : b = true ∨ (getP xs).2 = 0
  · have hx : cntX xs b most = (0, [], true) := by
      rw [cntX, if_pos]; rcases hb with h | h
      · exact .inl h
      · exact .inr (.inl h)
    have hr : rdX xs b (getP xs).2 = ([], true) := by rw [rdX, if_pos hb]
    have HX := hid hx; have HR := hid hr; have HB := hid hb
    clear hx hr hb
    go_enter Try.func41, Try.ntmps41
    go_wp2_with fail
    refine (num_any q xs b _ H.out).mono ?_
    rintro e w1 ⟨he, h1, h2⟩
    rw [if_pos HB.out] at he
    subst he
    rw [HR.out] at h1
    have H1 := hid h1; have H2 := hid h2
    clear h1 h2
    go_wp2_with fail
    go_ret
    rw [HX.out]
    exact ⟨rfl, H1.out, H2.out⟩
  · obtain ⟨⟨u, n⟩, hg⟩ : ∃ g, getP xs = g := ⟨_, rfl⟩
    have hr : rdX xs b (getP xs).2 = (xs.drop n, false) := by rw [rdX, if_neg hb, hg]
    have hul := getP_lt xs
    rw [hg] at hul
    dsimp only at hul
    by_cases hu : most < u
    · have hx : cntX xs b most = (0, [], true) := by rw [cntX, if_pos (by rw [hg]; exact .inr (.inr hu))]
      have d1 : decide ((u : Int) > (most : Int)) = true := decide_eq_true (by omega)
      have HX := hid hx; have HR := hid hr; have HB := hid hb; have HG := hid hg
      clear hx hr hb hg
      go_enter Try.func41, Try.ntmps41
      go_wp2_with fail
      refine (num_any q xs b _ H.out).mono ?_
      rintro e w1 ⟨he, h1, h2⟩
      rw [if_neg HB.out, HG.out] at he
      rw [HR.out] at h1
      dsimp only at h1 he
      subst he
      obtain ⟨v, hc, hf, hl⟩ := h1
      have c1 := blk_cell hc
      have f1 := blk_free hc
      have HC := hid hc; have H2 := hid h2
      clear hf hl hc h2
      go_wp2_with fail
      go_ret
      rw [HX.out]
      refine ⟨rfl, ⟨.slice none 0 0, by rw [blk_set (blk_set HC.out 0 _) 1]; simp, rb_empty, by simp⟩, (H2.out.setOut (by simp) _).setOut (by simp) _⟩
    · have hx : cntX xs b most = (u, xs.drop n, false) := by
        rw [cntX, if_neg, hg]
        rw [hg]
        rintro (h | h | h)
        · exact hb (.inl h)
        · exact hb (.inr (by rw [hg]; exact h))
        · exact hu h
      have d1 : decide ((u : Int) > (most : Int)) = false := decide_eq_false (by omega)
      have hui : IntKind.i64.wrap (u : Int) = (u : Int) := IntWalk.i64_in _ (by omega)
      have HX := hid hx; have HR := hid hr; have HB := hid hb; have HG := hid hg
      clear hx hr hb hg
      go_enter Try.func41, Try.ntmps41
      go_wp2_with fail
      refine (num_any q xs b _ H.out).mono ?_
      rintro e w1 ⟨he, h1, h2⟩
      rw [if_neg HB.out, HG.out] at he
      rw [HR.out] at h1
      dsimp only at h1 he
      subst he
      have H1 := hid h1; have H2 := hid h2
      clear h1 h2
      go_wp2_with fail
      go_ret
      rw [HX.out]
      exact ⟨rfl, H1.out, H2.out⟩
set_option maxRecDepth 100000 in
theorem rend_any (q : Nat) (xs : By) (b : Bool) (w : World) (h : Rg q xs b w) :
    Calls Try.prog 45 #[.pointer (some ⟨q, 0, none⟩)] w fun e w' => e = .returned (.bool (!b && xs.length == 0)) ∧ w' = w := by
  obtain ⟨v, hc, hf, hl⟩ := h
  obtain ⟨A, c, rfl, hcap, hS⟩ := rb_shape hf
  have c0 := blk_cell hc
  clear hf hS hc
  obtain ⟨m, hm⟩ : ∃ m, xs.length = m := ⟨_, rfl⟩
  rw [hm] at c0 ⊢
  cases b with
  | true =>
    go_enter Try.func45, Try.ntmps45
    go_wp2_with fail
    go_ret
    exact ⟨rfl, rfl⟩
  | false =>
    by_cases h0 : m = 0
    · have d0 : ((m : Int) == 0) = true := by simp [h0]
      go_enter Try.func45, Try.ntmps45
      go_wp2_with fail
      go_ret
      exact ⟨by simp [h0], rfl⟩
    · have d0 : ((m : Int) == 0) = false := by simp [h0]
      go_enter Try.func45, Try.ntmps45
      go_wp2_with fail
      go_ret
      exact ⟨by simp [h0], rfl⟩
end Go.Proofs.Ytkipijdbkkcioaa
