/- The document's Reader: pass, Num, Int, Text, Count, End: walked once each. No condition but that the bytes lie in a row that is not great. The document's readList, readConf, readSnap, ReadSnap: walked once each. No condition but that the bytes lie. The document's readConf: walked once. No condition but that the bytes lie. The document's readSnap: walked once. No condition but that the bytes lie. The document's ReadSnap: walked once. No condition but that the bytes lie. -/
import Derived.Test.YtbkhademplgicaaGreatDoorM19
set_option linter.unusedVariables false
set_option linter.unusedSimpArgs false
namespace Go.Proofs.YtbkhademplgicaaGreatDoor
open Go.RowKit
set_option linter.unusedVariables false
set_option linter.unusedSimpArgs false
set_option maxRecDepth 100000 in
set_option maxHeartbeats 1000000 in
theorem qpass_any (q : Nat) (xs : By) (b : Bool) (n : Nat) (hle : n ≤ xs.length) (w : World) (h : Rg q xs b w) :
    Calls Tryz.prog 163 #[.pointer (some ⟨q, 0, none⟩), .int .i64 n] w fun e w' => e = .returned (.bool (!b && !decide (n = 0))) ∧ Rg q (rdX xs b n).1 (rdX xs b n).2 w' ∧ Kp (fun k => k ≠ q) w w' := by
  obtain ⟨v, ty, hc, hf, hl⟩ := h
  obtain ⟨A, c, rfl, hcap, hS⟩ := rb_shape hf
  have HF := hid hf; have HS := hid hS; have HC := hid hc
  have c0 := blk_cell hc
  have f0 := blk_free hc
  have hq := blk_lt hc
  clear hf hS hc
  have kq1 : ∀ (u v : Value) (i j : Nat), Kp (fun k => k ≠ q) w ((w.setCell ⟨q, i, none⟩ u).setCell ⟨q, j, none⟩ v) := fun u v i j => ((Kp.refl _ _).setOut (by simp) _).setOut (by simp) _
  have kq2 : ∀ (u : Value) (i : Nat), Kp (fun k => k ≠ q) w (w.setCell ⟨q, i, none⟩ u) := fun u i => (Kp.refl _ _).setOut (by simp) _
  have KQ1 := hid kq1; have KQ2 := hid kq2
  clear kq1 kq2
  cases b with
  | true =>
    go_enter Tryz.func163, Tryz.ntmps163
    go_wp2_with fail
    go_ret
    refine ⟨rfl, ?_, KQ1.out _ _ _ _⟩
    rw [rdX, if_pos (Or.inl rfl)]
    exact ⟨.slice none 0 0, ty, by rw [blk_set (blk_set HC.out 1 _) 0]; simp, rb_empty, by simp⟩
  | false =>
    by_cases hn : n = 0
    · have d0 : ((n : Int) == 0) = true := by simp [hn]
      go_enter Tryz.func163, Tryz.ntmps163
      go_wp2_with fail
      go_ret
      refine ⟨by simp [hn], ?_, KQ1.out _ _ _ _⟩
      rw [rdX, if_pos (Or.inr hn)]
      exact ⟨.slice none 0 0, ty, by rw [blk_set (blk_set HC.out 1 _) 0]; simp, rb_empty, by simp⟩
    · have d0 : ((n : Int) == 0) = false := by simp [hn]
      obtain ⟨m, hm⟩ : ∃ m, xs.length = m := ⟨_, rfl⟩
      have HM := hid hm
      rw [hm] at hle hcap c0
      have j1 : (n : Int) ≤ (m : Int) := by omega
      have j2 : (0 : Int) ≤ (n : Int) := by omega
      have j3 : (m : Int) ≤ (c : Int) := by omega
      have hnb : ¬ (false = true ∨ n = 0) := by simp [hn]
      have HNN := hid hn
      obtain ⟨_, _, h3⟩ := HS.out.now
      obtain ⟨bk, o, eA, _⟩ := h3 (by omega)
      subst eA
      clear h3 hm hn
      go_enter Tryz.func163, Tryz.ntmps163
      have hcc : c = n ∨ c ≠ n := by omega
      refine or2 hcc ?cA ?cB
      case' cA =>
        intro hc1
        have hrb : Foot (fun k => k < q) (Rb (.slice (some ⟨bk, o, none⟩) 0 0) (xs.drop n)) w := by
          rw [List.drop_eq_nil_of_le (by rw [HM.out]; omega)]
          exact rb_empty
        obtain rfl : m = n := by omega
        subst hc1
        have HRB := hid hrb
        clear hrb
        go_wp2_with fail
      case' cB =>
        intro hc1
        have hrb := rb_drop HS.out (by rw [HM.out]; exact hle) hc1
        rw [HM.out] at hrb
        have HRB := hid hrb
        clear hrb
        go_wp2_with fail
      all_goals (
        go_ret
        refine ⟨by simp [HNN.out], ?_, KQ2.out _ _⟩
        rw [rdX, if_neg hnb]
        refine ⟨_, ty, by rw [blk_set HC.out 0]; rfl, HRB.out.step ((KQ2.out _ _).mono fun k _ hk => Nat.ne_of_lt hk), ?_⟩
        rw [List.length_drop]
        omega)
set_option maxRecDepth 100000 in
set_option maxHeartbeats 2000000 in
theorem rgettext_any (v : Value) (xs : By) (w : World) (h : Foot All (Rb v xs) w) (hl : xs.length ≤ 9000000000000000000) :
    Calls Tryz.prog 162 #[v] w fun e w' => e = .returned (.tuple #[.string (getT xs).1, .int .i64 ((getT xs).2 : Nat)]) ∧ Kp All w w' := by
  obtain ⟨A, c, rfl, hs0⟩ := h.now
  have H := hid h
  have hcap : xs.length ≤ c := hs0.2.1
  clear hs0 h
  obtain ⟨n, hn⟩ : ∃ n, xs.length = n := ⟨_, rfl⟩
  have hatl := getP_le xs
  have hnum := getP_lt xs
  obtain ⟨⟨u, at_⟩, hg⟩ : ∃ q, getP xs = q := ⟨_, rfl⟩
  rw [hg] at hatl hnum
  rw [hn] at hcap hl hatl ⊢
  dsimp only at hatl hnum
  have HN := hid hn; have HG := hid hg
  clear hn hg
  go_enter Tryz.func162, Tryz.ntmps162
  go_wp2_with fail
  refine (rget_any _ xs _ (by have h := H.out; rw [HN.out] at h; exact h) (by rw [HN.out]; exact hl)).mono ?_
  rintro e w1 ⟨rfl, hk1⟩
  rw [HG.out]
  dsimp only
  have HK1 := hid hk1
  clear hk1
  by_cases h0 : at_ = 0
  · have d0 : ((at_ : Int) == 0) = true := by simp [h0]
    have ht : getT xs = (⟨#[]⟩, 0) := by rw [getT, HG.out, if_pos (Or.inl h0)]
    go_wp2_with fail
    exact bodyPost_ret (v := .tuple #[.string ⟨#[]⟩, .int .i64 0]) (by simp [results, Tryz.results162, go_sem]) rfl ⟨by rw [ht]; rfl, HK1.out⟩
  · have d0 : ((at_ : Int) == 0) = false := by simp [h0]
    have hsb : IntKind.i64.wrap ((n : Int) - (at_ : Int)) = ((n - at_ : Nat) : Int) := by rw [IntKind.wrap_i64]; omega
    have hcu : IntKind.u64.wrap ((n - at_ : Nat) : Int) = ((n - at_ : Nat) : Int) := by rw [wrap64u]; omega
    by_cases hu : n - at_ < u
    · have d1 : decide ((u : Int) > ((n - at_ : Nat) : Int)) = true := decide_eq_true (by omega)
      have ht : getT xs = (⟨#[]⟩, 0) := by rw [getT, HG.out, if_pos (Or.inr (by rw [HN.out]; exact hu))]
      go_wp2_with fail
      exact bodyPost_ret (v := .tuple #[.string ⟨#[]⟩, .int .i64 0]) (by simp [results, Tryz.results162, go_sem]) rfl ⟨by rw [ht]; rfl, HK1.out⟩
    · have d1 : decide ((u : Int) > ((n - at_ : Nat) : Int)) = false := decide_eq_false (by omega)
      have ht : getT xs = (strOfB ((xs.drop at_).take u), at_ + u) := by rw [getT, HG.out, if_neg (by rw [HN.out]; simp only; omega)]
      have HT := hid ht
      have hui : IntKind.i64.wrap (u : Int) = (u : Int) := IntWalk.i64_in _ (by omega)
      have hsum : IntKind.i64.wrap ((at_ : Int) + (u : Int)) = ((at_ + u : Nat) : Int) := by rw [IntKind.wrap_i64]; omega
      have j1 : (0 : Int) ≤ (at_ : Int) := by omega
      have j2 : (at_ : Int) ≤ ((at_ + u : Nat) : Int) := by omega
      have j3 : ((at_ + u : Nat) : Int) ≤ (c : Int) := by omega
      have hcc : c = at_ ∨ c ≠ at_ := by omega
      clear ht
      obtain ⟨A', c', e, hS⟩ := (H.out.step HK1.out).now
      injection e with e1 e2 e3
      subst e1 e3
      rw [HN.out] at hS
      obtain ⟨hS1, hS2, hS3⟩ := hS
      obtain ⟨b, o, eA, hr⟩ := hS3 (by omega)
      subst eA
      have hlen : ((xs.drop at_).take u).length = u := by rw [List.length_take, List.length_drop, HN.out]; omega
      refine or2 hcc ?cA ?cB
      case' cA =>
        intro hc1
        have hrb : Rb (.slice (some ⟨b, o, none⟩) u 0) ((xs.drop at_).take u) w1 := ⟨_, _, by rw [hlen], by rw [hlen]; exact ⟨by simpa using hlen, by omega, fun h => by omega⟩⟩
      case' cB =>
        intro hc1
        have hrb : Rb (.slice (some ⟨b, o + at_, none⟩) u (c - at_)) ((xs.drop at_).take u) w1 := ⟨_, _, by rw [hlen], by rw [hlen]; exact ⟨by simpa using hlen, by omega, fun h => ⟨b, o + at_, rfl, fun j z hj => by
          have hz : (u8s xs)[at_ + j]? = some z := by
            rw [u8s, List.getElem?_map] at hj ⊢
            rw [List.getElem?_take] at hj
            split at hj
            · rwa [List.getElem?_drop] at hj
            · cases hj
          have := hr _ _ hz
          rwa [show o + (at_ + j) = o + at_ + j from by omega] at this⟩⟩⟩
      all_goals (
        have hcv := run_conv_row hrb
        clear hrb hr hS1 hS2 hS3
        go_wp2_with fail
        exact bodyPost_ret (v := .tuple #[.string (strOfB ((xs.drop at_).take u)), .int .i64 ((at_ : Int) + (u : Int))]) (by simp [results, Tryz.results162, go_sem, strOfB]) rfl ⟨by rw [HT.out]; rfl, HK1.out⟩)
set_option maxRecDepth 100000 in
theorem qnum_any (q : Nat) (xs : By) (b : Bool) (w : World) (h : Rg q xs b w) :
    Calls Tryz.prog 160 #[.pointer (some ⟨q, 0, none⟩)] w (Rdone q xs b (getP xs).2 (.int .u64 (getP xs).1) (.int .u64 0) w) := by
  have H := hid h
  obtain ⟨v, ty, hc, hf, hl⟩ := h
  have c0 := blk_cell hc
  have HG := hid (rget_any v xs w (hf.mono fun _ _ _ => trivial) hl)
  have hle := getP_le xs
  obtain ⟨⟨u, n⟩, hg⟩ : ∃ g, getP xs = g := ⟨_, rfl⟩
  rw [hg] at HG hle ⊢
  dsimp only at HG hle ⊢
  clear hf hc hg
  go_enter Tryz.func160, Tryz.ntmps160
  go_wp2_with fail
  refine HG.out.mono ?_
  rintro e w1 ⟨rfl, hk1⟩
  have HK1 := hid hk1
  have HP := hid (qpass_any q xs b n hle w1 (H.out.all hk1))
  clear hk1
  by_cases hb : b = true ∨ n = 0
  · have hv : (!b && !decide (n = 0)) = false := by rcases hb with h | h <;> simp [h]
    rw [hv] at HP
    have HB := hid hb
    clear hv hb
    go_wp2_with fail
    refine HP.out.mono ?_
    rintro e w2 ⟨rfl, h2, hk2⟩
    have H2 := hid h2; have HK2 := hid (HK1.out.all.trans hk2)
    clear h2 hk2
    go_wp2_with fail
    go_ret
    exact ⟨by rw [if_pos HB.out]; rfl, H2.out, HK2.out⟩
  · have hv : (!b && !decide (n = 0)) = true := by
      cases b with
      | true => exact absurd (.inl rfl) hb
      | false => simp; exact fun h => hb (.inr h)
    rw [hv] at HP
    have HB := hid hb
    clear hv hb
    go_wp2_with fail
    refine HP.out.mono ?_
    rintro e w2 ⟨rfl, h2, hk2⟩
    have H2 := hid h2; have HK2 := hid (HK1.out.all.trans hk2)
    clear h2 hk2
    go_wp2_with fail
    go_ret
    exact ⟨by rw [if_neg HB.out]; rfl, H2.out, HK2.out⟩
set_option maxRecDepth 100000 in
theorem qtext_any (q : Nat) (xs : By) (b : Bool) (w : World) (h : Rg q xs b w) :
    Calls Tryz.prog 131 #[.pointer (some ⟨q, 0, none⟩)] w (Rdone q xs b (getT xs).2 (.string (getT xs).1) (.string ⟨#[]⟩) w) := by
  have H := hid h
  obtain ⟨v, ty, hc, hf, hl⟩ := h
  have c0 := blk_cell hc
  have HG := hid (rgettext_any v xs w (hf.mono fun _ _ _ => trivial) hl)
  have hle := getT_le xs
  obtain ⟨⟨u, n⟩, hg⟩ : ∃ g, getT xs = g := ⟨_, rfl⟩
  rw [hg] at HG hle ⊢
  dsimp only at HG hle ⊢
  clear hf hc hg
  go_enter Tryz.func131, Tryz.ntmps131
  go_wp2_with fail
  refine HG.out.mono ?_
  rintro e w1 ⟨rfl, hk1⟩
  have HK1 := hid hk1
  have HP := hid (qpass_any q xs b n hle w1 (H.out.all hk1))
  clear hk1
  by_cases hb : b = true ∨ n = 0
  · have hv : (!b && !decide (n = 0)) = false := by rcases hb with h | h <;> simp [h]
    rw [hv] at HP
    have HB := hid hb
    clear hv hb
    go_wp2_with fail
    refine HP.out.mono ?_
    rintro e w2 ⟨rfl, h2, hk2⟩
    have H2 := hid h2; have HK2 := hid (HK1.out.all.trans hk2)
    clear h2 hk2
    go_wp2_with fail
    go_ret
    exact ⟨by rw [if_pos HB.out]; rfl, H2.out, HK2.out⟩
  · have hv : (!b && !decide (n = 0)) = true := by
      cases b with
      | true => exact absurd (.inl rfl) hb
      | false => simp; exact fun h => hb (.inr h)
    rw [hv] at HP
    have HB := hid hb
    clear hv hb
    go_wp2_with fail
    refine HP.out.mono ?_
    rintro e w2 ⟨rfl, h2, hk2⟩
    have H2 := hid h2; have HK2 := hid (HK1.out.all.trans hk2)
    clear h2 hk2
    go_wp2_with fail
    go_ret
    exact ⟨by rw [if_neg HB.out]; rfl, H2.out, HK2.out⟩
theorem rzag_bits (u : Nat) (hu : u < 2 ^ 64) : bits BinOp.or IntKind.u64 ((u : Int) / 2) (IntKind.u64.wrap ((u : Int) * 9223372036854775808)) = ((u / 2 + u % 2 * 9223372036854775808 : Nat) : Int) := by
  have e1 : IntKind.u64.wrap ((u : Int) * 9223372036854775808) = ((u % 2 * 9223372036854775808 : Nat) : Int) := by
    show ((u : Int) * 9223372036854775808) % 18446744073709551616 = _
    omega
  rw [e1, show (u : Int) / 2 = ((u / 2 : Nat) : Int) by omega, u64_or_nat _ _ (by omega) (by omega), Nat.or_comm]
  have := Nat.two_pow_add_eq_or_of_lt (i := 63) (b := u / 2) (by omega) (u % 2)
  congr 1
  rw [show u % 2 * 9223372036854775808 = 2 ^ 63 * (u % 2) by omega, ← this]
  omega
theorem zagP_alt (u : Nat) (hu : u < 2 ^ 64) : IntKind.i64.wrap ((u / 2 + u % 2 * 9223372036854775808 : Nat) : Int) = zagP u := by
  rw [IntKind.wrap_i64]
  unfold zagP
  omega
theorem rzag_any (u : Nat) (hu : u < 2 ^ 64) (w : World) :
    Calls Tryz.prog 159 #[.int .u64 u] w fun e w' => e = .returned (.int .i64 (zagP u)) ∧ w = w' := by
  have e : IntKind.i64.wrap (bits BinOp.or IntKind.u64 ((u : Int) / 2) (IntKind.u64.wrap ((u : Int) * 9223372036854775808))) = zagP u := by rw [rzag_bits u hu]; exact zagP_alt u hu
  have E := hid e
  clear e
  go_enter Tryz.func159, Tryz.ntmps159
  go_wp2_with fail
  go_ret
  have E' := E.out
  rw [IntWalk.i64_left] at E'
  clear E
  refine ⟨?_, rfl⟩
  rw [E']
  rfl
theorem qint_any (q : Nat) (xs : By) (b : Bool) (w : World) (h : Rg q xs b w) :
    Calls Tryz.prog 129 #[.pointer (some ⟨q, 0, none⟩)] w (Rdone q xs b (getP xs).2 (.int .i64 (zagP (getP xs).1)) (.int .i64 0) w) := by
  have hl := getP_lt xs
  obtain ⟨u, hu⟩ : ∃ u, (if b = true ∨ (getP xs).2 = 0 then 0 else (getP xs).1) = u := ⟨_, rfl⟩
  have hul : u < 2 ^ 64 := by rw [← hu]; split <;> omega
  have e1 : (if b = true ∨ (getP xs).2 = 0 then Value.int .u64 0 else .int .u64 (getP xs).1) = .int .u64 (u : Nat) := by rw [← hu]; split <;> rfl
  have e2 : (if b = true ∨ (getP xs).2 = 0 then Value.int .i64 0 else .int .i64 (zagP (getP xs).1)) = .int .i64 (zagP u) := by rw [← hu]; split <;> rfl
  have E1 := hid e1; have E2 := hid e2
  clear e1 e2 hu
  go_enter Tryz.func129, Tryz.ntmps129
  go_wp2_with fail
  refine (qnum_any q xs b _ h).mono ?_
  rintro e w1 ⟨he, h1, h2⟩
  rw [E1.out] at he
  subst he
  have H1 := hid h1; have H2 := hid h2
  clear h1 h2 h
  go_wp2_with fail
  refine (rzag_any u hul _).mono ?_
  rintro e w2 ⟨rfl, rfl⟩
  go_wp2_with fail
  go_ret
  exact ⟨by rw [E2.out]; rfl, H1.out, H2.out⟩
set_option maxRecDepth 100000 in
theorem qcount_any (q : Nat) (xs : By) (b : Bool) (most : Nat) (hm : most ≤ 9000000000000000000) (w : World) (h : Rg q xs b w) :
    Calls Tryz.prog 199 #[.pointer (some ⟨q, 0, none⟩), .int .i64 most] w fun e w' => e = .returned (.int .i64 (cntX xs b most).1) ∧ Rg q (cntX xs b most).2.1 (cntX xs b most).2.2 w' ∧ Kp (fun k => k ≠ q) w w' := by
  have H := hid h
  clear h
  have hmu : IntKind.u64.wrap (most : Int) = (most : Int) := by rw [wrap64u]; omega
  have hm0 : decide ((most : Int) < 0) = false := decide_eq_false (by omega)
  by_cases hb : b = true ∨ (getP xs).2 = 0
  · have hx : cntX xs b most = (0, [], true) := by
      rw [cntX, if_pos]; rcases hb with h | h
      · exact .inl h
      · exact .inr (.inl h)
    have hr : rdX xs b (getP xs).2 = ([], true) := by rw [rdX, if_pos hb]
    have HX := hid hx; have HR := hid hr; have HB := hid hb
    clear hx hr hb
    go_enter Tryz.func199, Tryz.ntmps199
    go_wp2_with fail
    refine (qnum_any q xs b _ H.out).mono ?_
    rintro e w1 ⟨he, h1, h2⟩
    rw [if_pos HB.out] at he
    subst he
    rw [HR.out] at h1
    have H1 := hid h1; have H2 := hid h2
    clear h1 h2
    go_wp2_with fail
    go_ret
    rw [HX.out]
    exact ⟨rfl, H1.out, H2.out⟩
  · obtain ⟨⟨u, n⟩, hg⟩ : ∃ g, getP xs = g := ⟨_, rfl⟩
    have hr : rdX xs b (getP xs).2 = (xs.drop n, false) := by rw [rdX, if_neg hb, hg]
    have hul := getP_lt xs
    rw [hg] at hul
    dsimp only at hul
    by_cases hu : most < u
    · have hx : cntX xs b most = (0, [], true) := by rw [cntX, if_pos (by rw [hg]; exact .inr (.inr hu))]
      have d1 : decide ((u : Int) > (most : Int)) = true := decide_eq_true (by omega)
      have HX := hid hx; have HR := hid hr; have HB := hid hb; have HG := hid hg
      clear hx hr hb hg
      go_enter Tryz.func199, Tryz.ntmps199
      go_wp2_with fail
      refine (qnum_any q xs b _ H.out).mono ?_
      rintro e w1 ⟨he, h1, h2⟩
      rw [if_neg HB.out, HG.out] at he
      rw [HR.out] at h1
      dsimp only at h1 he
      subst he
      have H1 := hid h1; have H2 := hid h2
      clear h1 h2
      go_wp2_with fail
      refine (qpass_any q (xs.drop n) false 0 (Nat.zero_le _) w1 H1.out).mono ?_
      rintro e w2 ⟨rfl, h3, h4⟩
      have H3 := hid h3; have H4 := hid (H2.out.trans h4)
      clear h3 h4
      go_wp2_with fail
      go_ret
      rw [HX.out]
      exact ⟨rfl, H3.out, H4.out⟩
    · have hx : cntX xs b most = (u, xs.drop n, false) := by
        rw [cntX, if_neg, hg]
        rw [hg]
        rintro (h | h | h)
        · exact hb (.inl h)
        · exact hb (.inr (by rw [hg]; exact h))
        · exact hu h
      have d1 : decide ((u : Int) > (most : Int)) = false := decide_eq_false (by omega)
      have hui : IntKind.i64.wrap (u : Int) = (u : Int) := IntWalk.i64_in _ (by omega)
      have HX := hid hx; have HR := hid hr; have HB := hid hb; have HG := hid hg
      clear hx hr hb hg
      go_enter Tryz.func199, Tryz.ntmps199
      go_wp2_with fail
      refine (qnum_any q xs b _ H.out).mono ?_
      rintro e w1 ⟨he, h1, h2⟩
      rw [if_neg HB.out, HG.out] at he
      rw [HR.out] at h1
      dsimp only at h1 he
      subst he
      have H1 := hid h1; have H2 := hid h2
      clear h1 h2
      go_wp2_with fail
      go_ret
      rw [HX.out]
      exact ⟨rfl, H1.out, H2.out⟩
set_option maxRecDepth 100000 in
theorem qend_any (q : Nat) (xs : By) (b : Bool) (w : World) (h : Rg q xs b w) :
    Calls Tryz.prog 90 #[.pointer (some ⟨q, 0, none⟩)] w fun e w' => e = .returned (.bool (!b && xs.length == 0)) ∧ w' = w := by
  obtain ⟨v, ty, hc, hf, hl⟩ := h
  obtain ⟨A, c, rfl, hcap, hS⟩ := rb_shape hf
  have c0 := blk_cell hc
  clear hf hS hc
  obtain ⟨m, hm⟩ : ∃ m, xs.length = m := ⟨_, rfl⟩
  rw [hm] at c0 ⊢
  cases b with
  | true =>
    go_enter Tryz.func90, Tryz.ntmps90
    go_wp2_with fail
    go_ret
    exact ⟨rfl, rfl⟩
  | false =>
    by_cases h0 : m = 0
    · have d0 : ((m : Int) == 0) = true := by simp [h0]
      go_enter Tryz.func90, Tryz.ntmps90
      go_wp2_with fail
      go_ret
      exact ⟨by simp [h0], rfl⟩
    · have d0 : ((m : Int) == 0) = false := by simp [h0]
      go_enter Tryz.func90, Tryz.ntmps90
      go_wp2_with fail
      go_ret
      exact ⟨by simp [h0], rfl⟩
/-! ### Over a state -/
theorem qint_s (q : Nat) (s : Sx) (w : World) (h : Rs q s w) : Calls Tryz.prog 129 #[.pointer (some ⟨q, 0, none⟩)] w fun e w' => e = .returned (.int .i64 (iV s)) ∧ Rs q (nX s) w' ∧ Kp (fun k => k ≠ q) w w' := by
  refine (qint_any q s.1 s.2 w h).mono ?_
  rintro e w' ⟨rfl, h1, h2⟩
  exact ⟨by rw [iV]; split <;> rfl, h1, h2⟩
theorem qtext_s (q : Nat) (s : Sx) (w : World) (h : Rs q s w) : Calls Tryz.prog 131 #[.pointer (some ⟨q, 0, none⟩)] w fun e w' => e = .returned (.string (tV s)) ∧ Rs q (tX s) w' ∧ Kp (fun k => k ≠ q) w w' := by
  refine (qtext_any q s.1 s.2 w h).mono ?_
  rintro e w' ⟨rfl, h1, h2⟩
  exact ⟨by rw [tV]; split <;> rfl, h1, h2⟩
end Go.Proofs.YtbkhademplgicaaGreatDoor

namespace Go.Proofs.YtbkhademplgicaaGreatDoor
open Go.RowKit
set_option linter.unusedVariables false
set_option linter.unusedSimpArgs false
set_option maxRecDepth 100000 in
set_option maxHeartbeats 2000000 in
theorem rreadlist_any (q : Nat) (s : Sx) (w : World) (h : Rs q s w) :
    Calls Tryz.prog 161 #[.pointer (some ⟨q, 0, none⟩)] w (Items q s w) := by
  have H := hid h
  have hq : q < w.heap.size := by obtain ⟨v, ty, h1, _⟩ := h; exact blk_lt h1
  obtain ⟨m0, hm0⟩ : ∃ m0, (cntX s.1 s.2 1000000).1 = m0 := ⟨_, rfl⟩
  have hm9 : m0 ≤ 1000000 := by rw [← hm0]; exact cntX_le _ _ _
  have HM0 := hid hm0
  clear h hm0
  go_enter Tryz.func161, Tryz.ntmps161
  go_wp2_with fail
  refine (qcount_any q s.1 s.2 1000000 (by omega) _ H.out).mono ?_
  rw [HM0.out]
  rintro e w1 ⟨rfl, hr1, hk1⟩
  have HR1 := hid (show Rs q (cX s 1000000) w1 from hr1)
  have HK1 := hid hk1
  clear hr1 hk1
  go_wp2_with fail
  go_loopw [4, 5] (fun x i wr => ∃ (k m : Nat) (t : Sx) (acc : List Int), i = .int .i64 k ∧ k + m = m0 ∧ acc.length + m ≤ 1000000 ∧ Hid (itemsP m t acc = listP s) ∧ Hid (Rs q t wr) ∧ Hid (wr.ownsRow w.heap.size 3 1 x acc.length (ivs acc)) ∧ Hid (Kp (fun k => k ≠ q) w wr)) (fun _ i _ => m0 - (intOf i).toNat)
  case atStart => exact ⟨0, m0, cX s 1000000, [], rfl, by omega, by simpa using hm9, hid (by rw [listP, cV, HM0.out]), HR1, hid (World.ownsRow_nil _ _ _ _), HK1⟩
  case round =>
    obtain ⟨k, m, t, acc, rfl, hkm, hacc, hit, hrs, hown, hkp⟩ := hrel
    obtain ⟨A3, c3, rfl⟩ := own_shape hown.out
    obtain ⟨al, hal⟩ : ∃ al, acc.length = al := ⟨_, rfl⟩
    have HAL := hid hal
    have ho := hown.out
    rw [hal] at ho hacc ⊢
    have HOW0 := hid ho
    clear hal ho
    match m, hkm, hacc, hit with
    | 0, hkm, _, hit =>
      have d0 : decide ((k : Int) < (m0 : Int)) = false := decide_eq_false (by omega)
      have he := hit.out
      rw [itemsP] at he
      go_wp2_with fail
      go_ret
      refine ⟨_, rfl, ?_, ?_, hkp.out⟩
      · rw [← he]; dsimp only; rw [HAL.out]; exact HOW0.out
      · rw [← he]; exact hrs.out
    | m + 1, hkm, hacc, hit =>
      have d0 : decide ((k : Int) < (m0 : Int)) = true := decide_eq_true (by omega)
      obtain ⟨xs, b⟩ := t
      obtain ⟨vq, tyq, hcq, hfq, hlq⟩ := hrs.out
      have cq := blk_cell hcq
      clear hcq hfq hlq
      cases b with
      | true =>
        have he := hit.out
        rw [itemsP, if_pos rfl] at he
        go_wp2_with fail
        go_ret
        refine ⟨_, rfl, ?_, ?_, hkp.out⟩
        · rw [← he]; dsimp only; rw [HAL.out]; exact HOW0.out
        · rw [← he]; exact hrs.out
      | false =>
        have he := hit.out
        rw [itemsP, if_neg (by simp)] at he
        have HE := hid he
        clear he
        go_wp2_with fail
        refine (qint_s q (xs, false) _ hrs.out).mono ?_
        rintro e w2 ⟨rfl, hr2, hk2⟩
        have ho2 := own_kept HOW0.out hk2 (fun b hb e => by
          have := (HOW0.out.lt b hb).1; omega)
        have HR2 := hid hr2; have HK2 := hid (hkp.out.trans hk2); have HO2 := hid ho2
        clear hr2 hk2 ho2 cq
        go_wp2_with (at_builtin; go_loud (refine wpList_app elI (HO2.out.alloc _) (sl_new1i _ _ _) (ivs_one _) ?_ (Nat.le_trans HK2.out.size (by simp)) rfl _ _ rfl rfl rfl ?_); omega; intro v' w4 hown4 hg4 hob4 hnil4; obtain ⟨A4, c4', rfl⟩ := own_shape hown4; have HOW4 := hid hown4; have HG4 := hid hg4; clear hown4 hg4 hob4 hnil4)
        have k24 : Kp (fun i => i ≤ q) w2 w4 := ((Kp.refl _ w2).alloc _).then (Kp.grown HG4.out) (fun i hi hle e => by
          have := (HO2.out.lt i e.symm).1
          omega)
        have k4 : Kp (fun i => i ≠ q) w w4 := (HK2.out.alloc _).then (Kp.grown HG4.out) (fun i hi _ e => by
          have := (HO2.out.lt i e.symm).1
          omega)
        refine ⟨⟨k + 1, m, nX (xs, false), acc ++ [iV (xs, false)], by go_num, by omega, by rw [List.length_append, HAL.out, List.length_singleton]; omega, HE, hid (HR2.out.kept k24 (fun i hi => hi)), ?_, k4⟩, by simp [intOf]; omega⟩
        refine hid ?_
        have h := HOW4.out
        rw [List.length_append, HAL.out]
        have e : ivs (acc ++ [iV (xs, false)]) = ivs acc ++ ivs [iV (xs, false)] := by simp [ivs]
        rw [e]
        exact h
end Go.Proofs.YtbkhademplgicaaGreatDoor

namespace Go.Proofs.YtbkhademplgicaaGreatDoor
open Go.RowKit
set_option linter.unusedVariables false
set_option linter.unusedSimpArgs false
set_option maxRecDepth 100000 in
set_option maxHeartbeats 2000000 in
theorem rreadconf_any (q : Nat) (s : Sx) (w : World) (h : Rs q s w) :
    Calls Tryz.prog 130 #[.pointer (some ⟨q, 0, none⟩)] w (ConfR q s w) := by
  have hq : q < w.heap.size := by obtain ⟨v, ty, h1, _⟩ := h; exact blk_lt h1
  have kb : Kp All w ((w.alloc (.cells #[.slice none 0 0, .slice none 0 0] 24)).alloc (.cells #[.slice none 0 0, .slice none 0 0] 24)) := (Kp.al _ _).alloc _
  have b1 := blk_alloc (blk_new w (.cells #[.slice none 0 0, .slice none 0 0] 24)) (.cells #[.slice none 0 0, .slice none 0 0] 24)
  have b2 := blk_new (w.alloc (.cells #[.slice none 0 0, .slice none 0 0] 24)) (.cells #[.slice none 0 0, .slice none 0 0] 24)
  rw [World.size_alloc] at b2
  have H := hid (h.all kb)
  have KB := hid kb; have B1 := hid b1; have B2 := hid b2
  clear h kb b1 b2
  go_enter Tryz.func130, Tryz.ntmps130
  go_wp2_with fail
  refine (rreadlist_any q s _ H.out).mono ?_
  rintro e w1 ⟨v1, rfl, ho1, hr1, hk1⟩
  obtain ⟨A1, c1, rfl⟩ := own_shape ho1
  obtain ⟨l1, hl1⟩ : ∃ l1, (listP s).1 = l1 := ⟨_, rfl⟩
  obtain ⟨s1, hs1⟩ : ∃ s1, (listP s).2 = s1 := ⟨_, rfl⟩
  have HL1 := hid hl1; have HS1 := hid hs1
  rw [hl1] at ho1
  rw [hs1] at hr1
  rw [hl1]
  obtain ⟨n1, hn1⟩ : ∃ n1, l1.length = n1 := ⟨_, rfl⟩
  have HN1 := hid hn1
  rw [hn1] at ho1 ⊢
  have hb1 := hk1.heap B1.out (show w.heap.size ≠ q by omega)
  have hx1 := hk1.heap B2.out (show w.heap.size + 1 ≠ q by omega)
  have HO1 := hid ho1; have HR1 := hid hr1; have HK1 := hid (KB.out.all.trans hk1)
  have HB1 := hid hb1; have HX1 := hid hx1
  have cx := blk_cell hx1; have fx := blk_free hx1
  have hbase : w.heap.size + 2 ≤ ((w.alloc (.cells #[.slice none 0 0, .slice none 0 0] 24)).alloc (.cells #[.slice none 0 0, .slice none 0 0] 24)).heap.size := by simp
  obtain ⟨base, hbs⟩ : ∃ base, ((w.alloc (.cells #[.slice none 0 0, .slice none 0 0] 24)).alloc (.cells #[.slice none 0 0, .slice none 0 0] 24)).heap.size = base := ⟨_, rfl⟩
  rw [hbs] at HO1 hbase
  clear hl1 hs1 ho1 hr1 hn1 hb1 hx1 hk1 hbs H KB B1 B2
  go_wp2_with fail
  have k2 : Kp (fun i => i ≠ w.heap.size + 1) w1 (w1.setCell ⟨w.heap.size + 1, 0, none⟩ (.slice A1 n1 c1)) := (Kp.refl _ _).setOut (fun h => h rfl) _
  have hx2 : (w1.setCell ⟨w.heap.size + 1, 0, none⟩ (.slice A1 n1 c1)).heap[w.heap.size + 1]? = some (.cells #[.slice A1 n1 c1, .slice none 0 0] 24 (0, 0)) := by rw [blk_set HX1.out 0]; rfl
  obtain ⟨w2, hw2⟩ : ∃ w2, w2 = w1.setCell ⟨w.heap.size + 1, 0, none⟩ (.slice A1 n1 c1) := ⟨_, rfl⟩
  rw [← hw2] at k2 hx2 ⊢
  have HR2 := hid (HR1.out.kept k2 (fun i hi => by show i ≠ w.heap.size + 1; omega))
  have HO2 := hid (own_kept HO1.out k2 (fun b hb => by have := (HO1.out.lt b hb).1; show b ≠ w.heap.size + 1; omega))
  have HB2 := hid (k2.heap HB1.out (show w.heap.size ≠ w.heap.size + 1 by omega))
  have HX2 := hid hx2
  have HK2 := hid (HK1.out.then k2 (fun i hi _ => by show i ≠ w.heap.size + 1; omega))
  clear hw2 k2 hx2 cx fx
  refine (rreadlist_any q s1 w2 HR2.out).mono ?_
  rintro e w3 ⟨v2, rfl, ho2, hr2, hk2⟩
  obtain ⟨A2, c2, rfl⟩ := own_shape ho2
  obtain ⟨l2, hl2⟩ : ∃ l2, (listP s1).1 = l2 := ⟨_, rfl⟩
  have HL2 := hid hl2
  rw [hl2] at ho2
  rw [hl2]
  obtain ⟨n2, hn2⟩ : ∃ n2, l2.length = n2 := ⟨_, rfl⟩
  have HN2 := hid hn2
  rw [hn2] at ho2 ⊢
  have hb3 := hk2.heap HB2.out (show w.heap.size ≠ q by omega)
  have hx3 := hk2.heap HX2.out (show w.heap.size + 1 ≠ q by omega)
  have ho1' := own_kept HO2.out hk2 (fun b hb => by have := (HO2.out.lt b hb).1; show b ≠ q; omega)
  have HB3 := hid hb3; have HX3 := hid hx3; have cb := blk_cell hb3; have fb := blk_free hb3; have cx := blk_cell hx3; have fx := blk_free hx3
  have hsz : w.heap.size + 2 ≤ w2.heap.size := by have := blk_lt HX2.out; omega
  have HO1' := hid ho1'; have HO3 := hid ho2; have HR3 := hid hr2; have HK3 := hid (HK2.out.trans hk2)
  clear hl2 ho2 hr2 hn2 hb3 hx3 ho1' hk2
  have f1 : ((w3.setCell ⟨w.heap.size + 1, 1, none⟩ (.slice A2 n2 c2)).heap[w.heap.size + 1]?) = some (.cells #[.slice A1 n1 c1, .slice A2 n2 c2] 24 (0, 0)) := by rw [blk_set HX3.out 1]; rfl
  have f2 : ((w3.setCell ⟨w.heap.size + 1, 1, none⟩ (.slice A2 n2 c2)).heap[w.heap.size]?) = some (.cells #[.slice none 0 0, .slice none 0 0] 24 (0, 0)) := blk_far HB3.out (show w.heap.size ≠ w.heap.size + 1 by omega) _
  have cf1 := blk_cell f1; have cf2 := blk_cell f2; have ff2 := blk_free f2
  have F2 := hid f2
  clear f1 f2
  go_wp2_with fail
  obtain ⟨wF, hwF⟩ : ∃ wF, wF = (((w3.setCell ⟨w.heap.size + 1, 1, none⟩ (.slice A2 n2 c2)).setCell ⟨w.heap.size, 0, none⟩ (.slice A1 n1 c1)).setCell ⟨w.heap.size, 1, none⟩ (.slice A2 n2 c2)) := ⟨_, rfl⟩
  have hF : wF.heap[w.heap.size]? = some (.cells #[.slice A1 n1 c1, .slice A2 n2 c2] 24 (0, 0)) := by rw [hwF, blk_set (blk_set F2.out 0 _) 1 _]; rfl
  have kF : Kp (fun i => i ≠ w.heap.size ∧ i ≠ w.heap.size + 1) w3 wF := by
    rw [hwF]
    exact (((Kp.refl _ _).setOut (fun h => h.2 rfl) _).setOut (fun h => h.1 rfl) _).setOut (fun h => h.1 rfl) _
  rw [← hwF]
  have cF := blk_cell hF
  refine bodyPost_ret (v := .agg #[.slice A1 n1 c1, .slice A2 n2 c2]) (by simp [results, Tryz.results130, go_sem, cF]) rfl ?_
  unfold ConfR
  rw [HL1.out, HS1.out, HL2.out, HN1.out, HN2.out]
  refine ⟨A1, c1, A2, c2, rfl, ?_, ?_, HR3.out.kept kF (fun i hi => ⟨by omega, by omega⟩), HK3.out.then kF (fun i hi _ => ⟨by omega, by omega⟩)⟩
  · exact own_kept (World.ownsRow.mono (base' := w.heap.size) HO1'.out (by omega)) kF (fun b hb => by have := (HO1'.out.lt b hb).1; exact ⟨by omega, by omega⟩)
  · exact own_kept (World.ownsRow.mono (base' := w.heap.size) HO3.out (by omega)) kF (fun b hb => by have := (HO3.out.lt b hb).1; exact ⟨by omega, by omega⟩)
end Go.Proofs.YtbkhademplgicaaGreatDoor

namespace Go.Proofs.YtbkhademplgicaaGreatDoor
open Go.RowKit
set_option linter.unusedVariables false
set_option linter.unusedSimpArgs false
set_option maxRecDepth 100000 in
set_option maxHeartbeats 4000000 in
theorem rreadsnap0_any (q : Nat) (s : Sx) (w : World) (h : Rs q s w) :
    Calls Tryz.prog 89 #[.pointer (some ⟨q, 0, none⟩)] w (SnapRd q s w) := by
  have hq : q < w.heap.size := by obtain ⟨v, ty, h1, _⟩ := h; exact blk_lt h1
  have kb : Kp All w ((w.alloc (.cells #[.int .i64 0, .int .i64 0, .slice none 0 0, .slice none 0 0, .slice none 0 0] 27)).alloc (.cells #[.int .i64 0, .int .i64 0, .slice none 0 0, .slice none 0 0, .slice none 0 0] 27)) := (Kp.al _ _).alloc _
  have b1 := blk_alloc (blk_new w (.cells #[.int .i64 0, .int .i64 0, .slice none 0 0, .slice none 0 0, .slice none 0 0] 27)) (.cells #[.int .i64 0, .int .i64 0, .slice none 0 0, .slice none 0 0, .slice none 0 0] 27)
  have b2 := blk_new (w.alloc (.cells #[.int .i64 0, .int .i64 0, .slice none 0 0, .slice none 0 0, .slice none 0 0] 27)) (.cells #[.int .i64 0, .int .i64 0, .slice none 0 0, .slice none 0 0, .slice none 0 0] 27)
  rw [World.size_alloc] at b2
  have H := hid (h.all kb)
  have KB := hid kb; have B1 := hid b1; have B2 := hid b2
  clear h kb b1 b2
  go_enter Tryz.func89, Tryz.ntmps89
  go_wp2_with fail
  refine (qint_s q s _ H.out).mono ?_
  rintro e w1 ⟨rfl, hr1, hk1⟩
  have hb1 := hk1.heap B1.out (show w.heap.size ≠ q by omega)
  have hx1 := hk1.heap B2.out (show w.heap.size + 1 ≠ q by omega)
  have cx := blk_cell hx1; have fx := blk_free hx1
  have HB1 := hid hb1; have HX1 := hid hx1; have HR1 := hid hr1; have HK1 := hid (KB.out.all.trans hk1)
  clear hb1 hx1 hr1 hk1 H KB B1 B2
  go_wp2_with fail
  have k2 : Kp (fun i => i ≠ w.heap.size + 1) w1 (w1.setCell ⟨w.heap.size + 1, 0, none⟩ (.int .i64 (iV s))) := (Kp.refl _ _).setOut (fun h => h rfl) _
  have hx2 : (w1.setCell ⟨w.heap.size + 1, 0, none⟩ (.int .i64 (iV s))).heap[w.heap.size + 1]? = some (.cells #[.int .i64 (iV s), .int .i64 0, .slice none 0 0, .slice none 0 0, .slice none 0 0] 27 (0, 0)) := by rw [blk_set HX1.out 0]; rfl
  obtain ⟨w2, hw2⟩ : ∃ w2, w2 = w1.setCell ⟨w.heap.size + 1, 0, none⟩ (.int .i64 (iV s)) := ⟨_, rfl⟩
  rw [← hw2] at k2 hx2 ⊢
  have HR2 := hid (HR1.out.kept k2 (fun i hi => by show i ≠ w.heap.size + 1; omega))
  have HB2 := hid (k2.heap HB1.out (show w.heap.size ≠ w.heap.size + 1 by omega)); have HX2 := hid hx2
  have HK2 := hid (HK1.out.then k2 (fun i hi _ => by show i ≠ w.heap.size + 1; omega))
  clear hw2 k2 hx2 cx fx
  refine (qint_s q (nX s) w2 HR2.out).mono ?_
  rintro e w3 ⟨rfl, hr3, hk3⟩
  have hb3 := hk3.heap HB2.out (show w.heap.size ≠ q by omega)
  have hx3 := hk3.heap HX2.out (show w.heap.size + 1 ≠ q by omega)
  have cx := blk_cell hx3; have fx := blk_free hx3
  have HB3 := hid hb3; have HX3 := hid hx3; have HR3 := hid hr3; have HK3 := hid (HK2.out.trans hk3)
  clear hb3 hx3 hr3 hk3
  go_wp2_with fail
  have k4 : Kp (fun i => i ≠ w.heap.size + 1) w3 (w3.setCell ⟨w.heap.size + 1, 1, none⟩ (.int .i64 (iV (nX s)))) := (Kp.refl _ _).setOut (fun h => h rfl) _
  have hx4 : (w3.setCell ⟨w.heap.size + 1, 1, none⟩ (.int .i64 (iV (nX s)))).heap[w.heap.size + 1]? = some (.cells #[.int .i64 (iV s), .int .i64 (iV (nX s)), .slice none 0 0, .slice none 0 0, .slice none 0 0] 27 (0, 0)) := by rw [blk_set HX3.out 1]; rfl
  obtain ⟨wc, hwc⟩ : ∃ wc, wc = w3.setCell ⟨w.heap.size + 1, 1, none⟩ (.int .i64 (iV (nX s))) := ⟨_, rfl⟩
  rw [← hwc] at k4 hx4 ⊢
  have hr := hid (HR3.out.kept k4 (fun i hi => by show i ≠ w.heap.size + 1; omega))
  have hb := hid (k4.heap HB3.out (show w.heap.size ≠ w.heap.size + 1 by omega)); have hx := hid hx4
  have hk := hid (HK3.out.then k4 (fun i hi _ => by show i ≠ w.heap.size + 1; omega))
  clear hwc k4 hx4 cx fx
  obtain ⟨g, hge⟩ : ∃ g, w.heap.size + 1 = g := ⟨_, rfl⟩
  have hg : w.heap.size < g := by omega
  rw [hge] at hx ⊢
  clear hge
  refine (rreadconf_any q _ _ hr.out).mono ?_
  obtain ⟨V, hV⟩ : ∃ V, (listP (nX (nX s))).1 = V := ⟨_, rfl⟩
  obtain ⟨L, hL⟩ : ∃ L, (listP (listP (nX (nX s))).2).1 = L := ⟨_, rfl⟩
  obtain ⟨s3, hs3⟩ : ∃ s3, (listP (listP (nX (nX s))).2).2 = s3 := ⟨_, rfl⟩
  have HV := hid hV; have HL := hid hL; have HS3 := hid hs3
  unfold ConfR
  rw [hV, hL, hs3]
  rintro e w1 ⟨VA, vc, LA, lc, rfl, ho1, ho2, hr1, hk1⟩
  obtain ⟨vn, hvn⟩ : ∃ vn, V.length = vn := ⟨_, rfl⟩
  obtain ⟨ln, hln⟩ : ∃ ln, L.length = ln := ⟨_, rfl⟩
  have HVN := hid hvn; have HLN := hid hln
  rw [hvn] at ho1
  rw [hln] at ho2
  rw [hvn, hln]
  have hwcs : w.heap.size ≤ wc.heap.size := hk.out.size
  have hgq : g ≠ q := by omega
  have hwq : w.heap.size ≠ q := by omega
  have hx1 := hk1.heap hx.out hgq
  have hb1 := hk1.heap hb.out hwq
  have cx1 := blk_cell hx1; have fx1 := blk_free hx1
  have HX1 := hid hx1; have HB1 := hid hb1; have HO1 := hid ho1; have HO2 := hid ho2; have HR1 := hid hr1; have HK1 := hid (hk.out.trans hk1)
  clear hV hL hs3 hvn hln ho1 ho2 hr1 hk1 hx1 hb1 hx hb hr hk
  go_wp2_with fail
  obtain ⟨w2, hw2⟩ : ∃ w2, w2 = (w1.setCell ⟨g, 2, none⟩ (.slice VA vn vc)).setCell ⟨g, 3, none⟩ (.slice LA ln lc) := ⟨_, rfl⟩
  have k2 : Kp (fun i => i ≠ g) w1 w2 := by rw [hw2]; exact ((Kp.refl _ _).setOut (fun h => h rfl) _).setOut (fun h => h rfl) _
  have hx2 : w2.heap[g]? = some (.cells #[.int .i64 (iV s), .int .i64 (iV (nX s)), .slice VA vn vc, .slice LA ln lc, .slice none 0 0] 27 (0, 0)) := by rw [hw2, blk_set (blk_set HX1.out 2 _) 3 _]; rfl
  have hne1 := own_ne HO1.out HX1.out (by decide); have hne2 := own_ne HO2.out HX1.out (by decide)
  have HX2 := hid hx2; have HB2 := hid (k2.heap HB1.out (by omega)); have HO1' := hid (own_kept HO1.out k2 hne1); have HO2' := hid (own_kept HO2.out k2 hne2)
  have HR2 := hid (HR1.out.kept k2 (fun i hi => by omega)); have HK2 := hid (HK1.out.then k2 (fun i hi _ e => by omega))
  rw [← hw2]
  clear cx1 fx1 hw2 k2 hx2 hne1 hne2
  refine (qtext_s q s3 _ HR2.out).mono ?_
  rintro e w3 ⟨rfl, hr3, hk3⟩
  obtain ⟨tx, htx⟩ : ∃ tx, tV s3 = tx := ⟨_, rfl⟩
  have HTX := hid htx
  rw [htx]
  obtain ⟨dc, w4, hcv, hrb, k34⟩ := conv_bytes tx w3
  have ho1' := own_kept HO1'.out hk3 (fun i hi e => by have := (HO1.out.lt i hi).1; omega)
  have ho2' := own_kept HO2'.out hk3 (fun i hi e => by have := (HO2.out.lt i hi).1; omega)
  have hx3 := hk3.heap HX2.out hgq
  have hb3 := hk3.heap HB2.out hwq
  have hg3 : g < w3.heap.size := blk_lt hx3
  have hw3 : w.heap.size < w3.heap.size := blk_lt hb3
  have hx4 := k34.heap hx3 trivial
  have hb4 := k34.heap hb3 trivial
  have cx4 := blk_cell hx4; have fx4 := blk_free hx4; have cb4 := blk_cell hb4; have fb4 := blk_free hb4
  have HX4 := hid hx4; have HB4 := hid hb4; have HO14 := hid (own_kept ho1' k34 (fun _ _ => trivial)); have HO24 := hid (own_kept ho2' k34 (fun _ _ => trivial)); have HR4 := hid (hr3.all k34); have HK4 := hid ((HK2.out.trans hk3).trans k34.all); have HD4 := hid hrb
  obtain ⟨dn, hdn⟩ : ∃ dn, tx.size = dn := ⟨_, rfl⟩
  have HDN := hid hdn
  rw [hdn] at hcv HD4
  clear ho1' ho2' hx3 hb3 hx4 hb4 hr3 hk3 k34 hrb htx hdn HX2 HB2 HX1 HB1
  go_wp2_with fail
  refine bodyPost_ret (v := .agg #[.int .i64 (iV s), .int .i64 (iV (nX s)), .slice VA vn vc, .slice LA ln lc, .slice (some ⟨w3.heap.size, 0, none⟩) dn dc]) (by simp [results, Tryz.results89, go_sem, cb4]) rfl ?_
  obtain ⟨wF, hwF⟩ : ∃ wF, wF = (((((w4.setCell ⟨g, 4, none⟩ (.slice (some ⟨w3.heap.size, 0, none⟩) dn dc)).setCell ⟨w.heap.size, 0, none⟩ (.int .i64 (iV s))).setCell ⟨w.heap.size, 1, none⟩ (.int .i64 (iV (nX s)))).setCell ⟨w.heap.size, 2, none⟩ (.slice VA vn vc)).setCell ⟨w.heap.size, 3, none⟩ (.slice LA ln lc)).setCell ⟨w.heap.size, 4, none⟩ (.slice (some ⟨w3.heap.size, 0, none⟩) dn dc) := ⟨_, rfl⟩
  have kF : Kp (fun i => i ≠ g ∧ i ≠ w.heap.size) w4 wF := by
    rw [hwF]
    exact ((((((Kp.refl _ _).setOut (fun h => h.1 rfl) _).setOut (fun h => h.2 rfl) _).setOut (fun h => h.2 rfl) _).setOut (fun h => h.2 rfl) _).setOut (fun h => h.2 rfl) _).setOut (fun h => h.2 rfl) _
  rw [← hwF]
  have hsn : snapR s = (⟨iV s, iV (nX s), V, L, tx.data.toList⟩, tX s3) := by unfold snapR; rw [HV.out, HL.out, HS3.out, HTX.out]
  have htl : tx.data.toList.length = dn := by rw [Array.length_toList]; exact HDN.out
  have hint := snapR_int s
  have hn1 := own_ne HO14.out HX4.out (by decide); have hn2 := own_ne HO24.out HX4.out (by decide); have hm1 := own_ne HO14.out HB4.out (by decide); have hm2 := own_ne HO24.out HB4.out (by decide)
  unfold SnapRd
  rw [hsn] at hint ⊢
  dsimp only at hint ⊢
  rw [HVN.out, HLN.out, htl]
  refine ⟨VA, LA, some ⟨w3.heap.size, 0, none⟩, vc, lc, dc, rfl, ⟨own_ints (own_kept HO14.out kF fun i hi => ⟨hn1 i hi, hm1 i hi⟩) (by omega), own_ints (own_kept HO24.out kF fun i hi => ⟨hn2 i hi, hm2 i hi⟩) (by omega), HVN.out, HLN.out, ?_, htl, hint⟩, HR4.out.kept kF (fun i hi => ⟨by omega, by omega⟩), HK4.out.then kF fun i hi _ => ⟨by omega, by omega⟩⟩
  intro u hu
  obtain ⟨A', c', e, h⟩ := HD4.out u ((kF.mono (T := fun i => i = w3.heap.size) (fun i _ hi => ⟨by omega, by omega⟩)).trans (hu.mono (fun i _ hi => by show q < i; omega)))
  injection e with e1 e2 e3
  subst e1 e3
  rw [htl] at h
  exact h
end Go.Proofs.YtbkhademplgicaaGreatDoor

namespace Go.Proofs.YtbkhademplgicaaGreatDoor
open Go.RowKit
set_option linter.unusedVariables false
set_option linter.unusedSimpArgs false
set_option maxRecDepth 100000 in
set_option maxHeartbeats 1000000 in
theorem rreadsnap_any (A : Option Addr) (n c : Nat) (xs : By) (hn : xs.length = n) (hl : n ≤ 1000000000000) (w : World) (h : Foot All (Sl A n c 1 (u8s xs)) w) :
    Calls Tryz.prog 44 #[.slice A n c] w (ReadS xs w) := by
  have HN := hid hn
  have kb : Kp All w ((w.alloc (Obj.cells #[.int .i64 0, .int .i64 0, .slice none 0 0, .slice none 0 0, .slice none 0 0] 27)).alloc (Obj.cells #[.slice A n c, .bool false] 120)) := (Kp.al _ _).alloc _
  have b1 := blk_alloc (blk_new w (Obj.cells #[.int .i64 0, .int .i64 0, .slice none 0 0, .slice none 0 0, .slice none 0 0] 27)) (Obj.cells #[.slice A n c, .bool false] 120)
  have b2 := blk_new (w.alloc (Obj.cells #[.int .i64 0, .int .i64 0, .slice none 0 0, .slice none 0 0, .slice none 0 0] 27)) (Obj.cells #[.slice A n c, .bool false] 120)
  rw [World.size_alloc] at b2
  have hr1 : Rs (w.heap.size + 1) (xs, false) ((w.alloc (Obj.cells #[.int .i64 0, .int .i64 0, .slice none 0 0, .slice none 0 0, .slice none 0 0] 27)).alloc (Obj.cells #[.slice A n c, .bool false] 120)) := by
    refine ⟨.slice A n c, 120, b2, fun u hu => ?_, by dsimp only; rw [HN.out]; omega⟩
    refine ⟨A, c, by rw [HN.out], ?_⟩
    rw [HN.out]
    exact h u (kb.then hu (fun i hi _ => by show i < w.heap.size + 1; omega))
  have KB := hid kb; have B1 := hid b1; have HR1 := hid hr1
  clear h hn kb b1 b2 hr1
  go_enter Tryz.func44, Tryz.ntmps44
  go_wp2_with fail
  refine (rreadsnap0_any (w.heap.size + 1) (xs, false) _ HR1.out).mono ?_
  rintro e w2 ⟨VA, LA, DA, vc, lc, dc, rfl, hs2, hr2, hk2⟩
  obtain ⟨x, hx⟩ : ∃ x, (snapR (xs, false)).1 = x := ⟨_, rfl⟩
  obtain ⟨s2, hs⟩ : ∃ s2, (snapR (xs, false)).2 = s2 := ⟨_, rfl⟩
  rw [hx] at hs2 ⊢
  rw [hs] at hr2
  obtain ⟨vn, hvn⟩ : ∃ vn, x.V.length = vn := ⟨_, rfl⟩
  obtain ⟨ln, hln⟩ : ∃ ln, x.L.length = ln := ⟨_, rfl⟩
  obtain ⟨dn, hdn⟩ : ∃ dn, x.data.length = dn := ⟨_, rfl⟩
  rw [hvn, hln, hdn] at hs2 ⊢
  have hb2 := hk2.heap B1.out (show w.heap.size ≠ w.heap.size + 1 by omega)
  have HX := hid hx; have HS := hid hs; have HVN := hid hvn; have HLN := hid hln; have HDN := hid hdn; have HS2 := hid hs2; have HR2 := hid hr2
  have HK2 := hid (KB.out.then hk2 (fun i hi _ => by show i ≠ w.heap.size + 1; omega)); have HB2 := hid hb2
  have HWS := hid (show w.heap.size < w2.heap.size from blk_lt hb2)
  clear hx hs hvn hln hdn hs2 hr2 hk2 hb2 HR1 B1
  have HL1 : Hid (vn ≤ 9000000000000000000) := hid (by have := listP_len (nX (nX (xs, false))); have h := HVN.out; rw [← HX.out] at h; have h2 : (snapR (xs, false)).1.V.length = (listP (nX (nX (xs, false)))).1.length := rfl; omega)
  have HL2 : Hid (ln ≤ 9000000000000000000) := hid (by have := listP_len (listP (nX (nX (xs, false)))).2; have h := HLN.out; rw [← HX.out] at h; have h2 : (snapR (xs, false)).1.L.length = (listP (listP (nX (nX (xs, false)))).2).1.length := rfl; omega)
  have HRS := hid (show readSnapP xs = if endP s2 && goodSnap x then some x else none by rw [readSnapP, HS.out, HX.out])
  have k7 := Kp.al w2 (Obj.cells #[.int .i64 x.index, .int .i64 x.term, .slice VA vn vc, .slice LA ln lc, .slice DA dn dc] 27)
  have b7 := blk_new w2 (Obj.cells #[.int .i64 x.index, .int .i64 x.term, .slice VA vn vc, .slice LA ln lc, .slice DA dn dc] 27)
  have c7 := blk_cell b7
  have hbb := blk_alloc HB2.out (Obj.cells #[.int .i64 x.index, .int .i64 x.term, .slice VA vn vc, .slice LA ln lc, .slice DA dn dc] 27)
  have cb := blk_cell hbb; have fb := blk_free hbb
  have HB7 := hid b7; have HBB := hid hbb; have K7 := hid k7
  have HE := hid (qend_any (w.heap.size + 1) s2.1 s2.2 (w2.alloc (Obj.cells #[.int .i64 x.index, .int .i64 x.term, .slice VA vn vc, .slice LA ln lc, .slice DA dn dc] 27)) (HR2.out.all k7))
  clear k7 b7 hbb
  obtain ⟨en, hen⟩ : ∃ en, endP s2 = en := ⟨_, rfl⟩
  have hen' : (!s2.2 && s2.1.length == 0) = en := hen
  rw [hen'] at HE
  rw [hen] at HRS
  clear hen hen'
  cases en with
  | false =>
    go_wp2_with fail
    refine HE.out.mono ?_
    rintro e w3 ⟨rfl, rfl⟩
    go_wp2_with fail
    have cF := blk_cell (set5 (v0 := .int .i64 0) (v1 := .int .i64 0) (v2 := .slice none 0 0) (v3 := .slice none 0 0) (v4 := .slice none 0 0) HBB.out)
    refine bodyPost_ret (v := .tuple #[.agg #[.int .i64 0, .int .i64 0, .slice none 0 0, .slice none 0 0, .slice none 0 0], .int .i64 8]) (by simp [results, Tryz.results44, go_sem, cF]) rfl ⟨(HK2.out.trans K7.out).then kp5 (fun i hi _ e => by omega), ?_⟩
    rw [HRS.out, if_neg (by simp)]
  | true =>
    go_wp2_with fail
    refine HE.out.mono ?_
    rintro e w3 ⟨rfl, rfl⟩
    have HGS := hid (rgoodsnap_any x VA LA DA vn vc ln lc dn dc HL1.out HL2.out _ (HS2.out.snp.step K7.out))
    obtain ⟨gd, hgd⟩ : ∃ gd, goodSnap x = gd := ⟨_, rfl⟩
    rw [hgd] at HGS HRS
    clear hgd
    go_wp2_with fail
    refine HGS.out.mono ?_
    rintro e w4 ⟨rfl, hk4⟩
    have hb4 := hk4.heap HBB.out trivial
    have hx4 := hk4.heap HB7.out trivial
    have c4 := blk_cell hb4; have f4 := blk_free hb4; have cx4 := blk_cell hx4
    have HB4 := hid hb4; have HK4 := hid ((HK2.out.trans K7.out).trans hk4); have HK24 := hid (K7.out.trans hk4)
    clear hb4 hx4 hk4
    cases gd with
    | false =>
      go_wp2_with fail
      have cF := blk_cell (set5 (v0 := .int .i64 0) (v1 := .int .i64 0) (v2 := .slice none 0 0) (v3 := .slice none 0 0) (v4 := .slice none 0 0) HB4.out)
      refine bodyPost_ret (v := .tuple #[.agg #[.int .i64 0, .int .i64 0, .slice none 0 0, .slice none 0 0, .slice none 0 0], .int .i64 8]) (by simp [results, Tryz.results44, go_sem, cF]) rfl ⟨HK4.out.then kp5 (fun i hi _ e => by omega), ?_⟩
      rw [HRS.out, if_neg (by simp)]
    | true =>
      go_wp2_with fail
      have cF := blk_cell (set5 (v0 := .int .i64 x.index) (v1 := .int .i64 x.term) (v2 := .slice VA vn vc) (v3 := .slice LA ln lc) (v4 := .slice DA dn dc) HB4.out)
      refine bodyPost_ret (v := .tuple #[.agg #[.int .i64 x.index, .int .i64 x.term, .slice VA vn vc, .slice LA ln lc, .slice DA dn dc], .int .i64 0]) (by simp [results, Tryz.results44, go_sem, cF]) rfl ⟨HK4.out.then kp5 (fun i hi _ e => by omega), ?_⟩
      rw [HRS.out]
      simp only [Bool.and_self, if_true]
      rw [HVN.out, HLN.out, HDN.out]
      refine ⟨VA, LA, DA, vc, lc, dc, rfl, ?_⟩
      have h9 := HS2.out.step HK24.out.all
      exact (h9.mono (T := fun i => w.heap.size < i) (fun i hi => by show w.heap.size < i; omega)).step ((kp5 (w := w4) (b := w.heap.size)).mono fun i _ hi => by show i ≠ w.heap.size; omega)
end Go.Proofs.YtbkhademplgicaaGreatDoor
