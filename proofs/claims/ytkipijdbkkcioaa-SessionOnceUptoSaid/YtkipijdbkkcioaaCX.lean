/- The codec's Reader: read of a number, of a text, of a byte; Num, Int, Text, Bool, Count, End: walked once each. No condition but that the bytes lie in a row that is not great. -/
import Derived.Test.YtkipijdbkkcioaaCW
namespace Go.Proofs.Ytkipijdbkkcioaa
open Go.RowKit
set_option linter.unusedVariables false
set_option linter.unusedSimpArgs false
/-- The reader in block q has the bytes xs ahead; b: it is wrong. -/
def Rg (q : Nat) (xs : By) (b : Bool) (w : World) : Prop := ∃ v, w.heap[q]? = some (.cells #[v, .bool b] 86 (0, 0)) ∧ Foot (fun k => k < q) (Rb v xs) w ∧ xs.length ≤ 9000000000000000000
def rdX (xs : By) (b : Bool) (n : Nat) : By × Bool := if b = true ∨ n = 0 then ([], true) else (xs.drop n, false)
/-- What read leaves. -/
def Rdone (q : Nat) (xs : By) (b : Bool) (n : Nat) (v z : Value) (w : World) (e : Ending) (w' : World) : Prop :=
  e = .returned (if b = true ∨ n = 0 then z else v) ∧ Rg q (rdX xs b n).1 (rdX xs b n).2 w' ∧ Kp (fun k => k ≠ q) w w'
theorem Rg.kept {S : Nat → Prop} {q : Nat} {xs : By} {b : Bool} {w w' : World} (h : Rg q xs b w) (k : Kp S w w') (hS : ∀ i, i ≤ q → S i) : Rg q xs b w' := by
  obtain ⟨v, h1, h2, h3⟩ := h
  exact ⟨v, k.heap h1 (hS q (Nat.le_refl _)), h2.step (k.mono fun i _ hi => hS i (Nat.le_of_lt hi)), h3⟩
theorem Rg.all {q : Nat} {xs : By} {b : Bool} {w w' : World} (h : Rg q xs b w) (k : Kp All w w') : Rg q xs b w' := h.kept k fun _ _ => trivial
theorem rb_shape {S : Nat → Prop} {v : Value} {xs : By} {w : World} (h : Foot S (Rb v xs) w) : ∃ A c, v = .slice A xs.length c ∧ xs.length ≤ c ∧ Foot S (Sl A xs.length c 1 (u8s xs)) w := by
  obtain ⟨A, c, rfl, hs⟩ := h.now
  refine ⟨A, c, rfl, hs.2.1, h.imp fun u hu => ?_⟩
  obtain ⟨A', c', e, hs⟩ := hu
  injection e with e1 _ e2; subst e1 e2; exact hs
theorem rb_drop {S : Nat → Prop} {b o c n : Nat} {xs : By} {w : World} (h : Foot S (Sl (some ⟨b, o, none⟩) xs.length c 1 (u8s xs)) w) (hn : n ≤ xs.length) (hc : c ≠ n) : Foot S (Rb (.slice (some ⟨b, o + n, none⟩) (xs.length - n) (c - n)) (xs.drop n)) w := by
  intro u hu
  obtain ⟨h1, h2, h3⟩ := h u hu
  have hl : (xs.drop n).length = xs.length - n := List.length_drop
  refine ⟨some ⟨b, o + n, none⟩, c - n, by rw [hl], ?_⟩
  rw [hl]
  refine ⟨by simp, by omega, fun hp => ?_⟩
  obtain ⟨b', o', e, hr⟩ := h3 (by omega)
  injection e with e; injection e with e1 e2; subst e1 e2
  refine ⟨b, o + n, rfl, fun j z hj => ?_⟩
  have hz : (u8s xs)[n + j]? = some z := by
    rw [u8s, List.getElem?_map] at hj ⊢
    rwa [List.getElem?_drop] at hj
  have := hr _ _ hz
  rwa [show o + (n + j) = o + n + j from by omega] at this
theorem rb_empty {S : Nat → Prop} {A : Option Addr} {w : World} : Foot S (Rb (.slice A 0 0) []) w := fun u _ => ⟨A, 0, rfl, rfl, Nat.le_refl _, fun h => absurd h (by simp)⟩
theorem getT_le (xs : By) : (getT xs).2 ≤ xs.length := by
  have := getP_le xs
  unfold getT
  split
  · exact Nat.zero_le _
  · simp only; omega
theorem getB_le (xs : By) : (getB xs).2 ≤ xs.length := by
  cases xs with
  | nil => exact Nat.le_refl _
  | cons x r =>
    rw [getB]
    split
    · simp
    · exact Nat.zero_le _
set_option maxRecDepth 100000 in
set_option maxHeartbeats 2000000 in
theorem readn_any (q : Nat) (xs : By) (b : Bool) (w : World) (h : Rg q xs b w) :
    Calls Try.prog 75 #[.pointer (some ⟨q, 0, none⟩), .func (.func 76) #[] #[]] w (Rdone q xs b (getP xs).2 (.int .u64 (getP xs).1) (.int .u64 0) w) := by
  obtain ⟨v, hc, hf, hl⟩ := h
  obtain ⟨A, c, rfl, hcap, hS⟩ := rb_shape hf
  have HF := hid hf; have HS := hid hS; have HC := hid hc
  have c0 := blk_cell hc
  have hq := blk_lt hc
  have hle := getP_le xs
  obtain ⟨⟨u, n⟩, hg⟩ : ∃ g, getP xs = g := ⟨_, rfl⟩
  rw [hg] at hle
  dsimp only at hle
  have HG := hid hg
  rw [hg]
  dsimp only
  clear hf hS hc hg
  go_enter Try.func75, Try.ntmps75
  go_wp2_with fail
  refine (get_any _ xs _ (HF.out.mono fun _ _ _ => trivial) hl).mono ?_
  rintro e w1 ⟨rfl, hk1⟩
  rw [HG.out]
  dsimp only
  have hc1 := hk1.heap HC.out trivial
  have c1 := blk_cell hc1
  have f1 := blk_free hc1
  have HC1 := hid hc1; have HK1 := hid hk1
  clear hk1 hc1 c0
  have kq : ∀ (u v : Value) (i j : Nat), Kp (fun k => k ≠ q) w ((w1.setCell ⟨q, i, none⟩ u).setCell ⟨q, j, none⟩ v) := fun u v i j => ((HK1.out.all).setOut (by simp) _).setOut (by simp) _
  have kq1 : ∀ (u v : Value) (i j : Nat), Kp (fun k => k ≠ q) w1 ((w1.setCell ⟨q, i, none⟩ u).setCell ⟨q, j, none⟩ v) := fun u v i j => ((Kp.refl _ _).setOut (by simp) _).setOut (by simp) _
  have KQ := hid kq; have KQ1 := hid kq1
  clear kq kq1
  cases b with
  | true =>
    go_wp2_with fail
    refine bodyPost_ret (v := .int .u64 0) (by simp [results, Try.results75, go_sem]) rfl ⟨by rw [if_pos (Or.inl rfl)], ?_, KQ.out _ _ _ _⟩
    rw [rdX, if_pos (Or.inl rfl)]
    exact ⟨.slice none 0 0, by rw [blk_set (blk_set HC1.out 1 _) 0]; simp, rb_empty, by simp⟩
  | false =>
    by_cases hn : n = 0
    · have d0 : ((n : Int) == 0) = true := by simp [hn]
      go_wp2_with fail
      refine bodyPost_ret (v := .int .u64 0) (by simp [results, Try.results75, go_sem]) rfl ⟨by rw [if_pos (Or.inr hn)], ?_, KQ.out _ _ _ _⟩
      rw [rdX, if_pos (Or.inr hn)]
      exact ⟨.slice none 0 0, by rw [blk_set (blk_set HC1.out 1 _) 0]; simp, rb_empty, by simp⟩
    · have d0 : ((n : Int) == 0) = false := by simp [hn]
      obtain ⟨m, hm⟩ : ∃ m, xs.length = m := ⟨_, rfl⟩
      have HM := hid hm
      rw [hm] at hle hcap c1
      have j1 : (n : Int) ≤ (m : Int) := by omega
      have j2 : (0 : Int) ≤ (n : Int) := by omega
      have j3 : (m : Int) ≤ (c : Int) := by omega
      have hnb : ¬ (false = true ∨ n = 0) := by simp [hn]
      obtain ⟨_, _, h3⟩ := HS.out.now
      obtain ⟨bk, o, eA, _⟩ := h3 (by omega)
      subst eA
      clear h3 hm
      have hcc : c = n ∨ c ≠ n := by omega
      refine or2 hcc ?cA ?cB
      case' cA =>
        intro hc1
        have hrb : Foot (fun k => k < q) (Rb (.slice (some ⟨bk, o, none⟩) 0 0) (xs.drop n)) w := by
          rw [List.drop_eq_nil_of_le (by rw [HM.out]; omega)]
          exact rb_empty
        obtain rfl : m = n := by omega
        subst hc1
        have HRB := hid hrb
        clear hrb
        go_wp2_with fail
      case' cB =>
        intro hc1
        have hrb := rb_drop HS.out (by rw [HM.out]; exact hle) hc1
        rw [HM.out] at hrb
        have HRB := hid hrb
        clear hrb
        go_wp2_with fail
      all_goals (
        refine bodyPost_ret (v := .int .u64 u) (by simp [results, Try.results75, go_sem]) rfl ⟨by rw [if_neg hnb], ?_, KQ.out _ _ _ _⟩
        rw [rdX, if_neg hnb]
        refine ⟨_, by rw [blk_set (blk_set HC1.out 1 _) 0]; rfl, HRB.out.step ((KQ.out _ _ _ _).mono fun k _ hk => Nat.ne_of_lt hk), ?_⟩
        rw [List.length_drop]
        omega)
set_option maxRecDepth 100000 in
set_option maxHeartbeats 2000000 in
theorem readt_any (q : Nat) (xs : By) (b : Bool) (w : World) (h : Rg q xs b w) :
    Calls Try.prog 60 #[.pointer (some ⟨q, 0, none⟩), .func (.func 61) #[] #[]] w (Rdone q xs b (getT xs).2 (.string (getT xs).1) (.string ⟨#[]⟩) w) := by
  obtain ⟨v, hc, hf, hl⟩ := h
  obtain ⟨A, c, rfl, hcap, hS⟩ := rb_shape hf
  have HF := hid hf; have HS := hid hS; have HC := hid hc
  have c0 := blk_cell hc
  have hq := blk_lt hc
  have hle := getT_le xs
  obtain ⟨⟨u, n⟩, hg⟩ : ∃ g, getT xs = g := ⟨_, rfl⟩
  rw [hg] at hle
  dsimp only at hle
  have HG := hid hg
  rw [hg]
  dsimp only
  clear hf hS hc hg
  go_enter Try.func60, Try.ntmps60
  go_wp2_with fail
  refine (gettext_any _ xs _ (HF.out.mono fun _ _ _ => trivial) hl).mono ?_
  rintro e w1 ⟨rfl, hk1⟩
  rw [HG.out]
  dsimp only
  have hc1 := hk1.heap HC.out trivial
  have c1 := blk_cell hc1
  have f1 := blk_free hc1
  have HC1 := hid hc1; have HK1 := hid hk1
  clear hk1 hc1 c0
  have kq : ∀ (u v : Value) (i j : Nat), Kp (fun k => k ≠ q) w ((w1.setCell ⟨q, i, none⟩ u).setCell ⟨q, j, none⟩ v) := fun u v i j => ((HK1.out.all).setOut (by simp) _).setOut (by simp) _
  have kq1 : ∀ (u v : Value) (i j : Nat), Kp (fun k => k ≠ q) w1 ((w1.setCell ⟨q, i, none⟩ u).setCell ⟨q, j, none⟩ v) := fun u v i j => ((Kp.refl _ _).setOut (by simp) _).setOut (by simp) _
  have KQ := hid kq; have KQ1 := hid kq1
  clear kq kq1
  cases b with
  | true =>
    go_wp2_with fail
    refine bodyPost_ret (v := .string ⟨#[]⟩) (by simp [results, Try.results60, go_sem]) rfl ⟨by rw [if_pos (Or.inl rfl)], ?_, KQ.out _ _ _ _⟩
    rw [rdX, if_pos (Or.inl rfl)]
    exact ⟨.slice none 0 0, by rw [blk_set (blk_set HC1.out 1 _) 0]; simp, rb_empty, by simp⟩
  | false =>
    by_cases hn : n = 0
    · have d0 : ((n : Int) == 0) = true := by simp [hn]
      go_wp2_with fail
      refine bodyPost_ret (v := .string ⟨#[]⟩) (by simp [results, Try.results60, go_sem]) rfl ⟨by rw [if_pos (Or.inr hn)], ?_, KQ.out _ _ _ _⟩
      rw [rdX, if_pos (Or.inr hn)]
      exact ⟨.slice none 0 0, by rw [blk_set (blk_set HC1.out 1 _) 0]; simp, rb_empty, by simp⟩
    · have d0 : ((n : Int) == 0) = false := by simp [hn]
      obtain ⟨m, hm⟩ : ∃ m, xs.length = m := ⟨_, rfl⟩
      have HM := hid hm
      rw [hm] at hle hcap c1
      have j1 : (n : Int) ≤ (m : Int) := by omega
      have j2 : (0 : Int) ≤ (n : Int) := by omega
      have j3 : (m : Int) ≤ (c : Int) := by omega
      have hnb : ¬ (false = true ∨ n = 0) := by simp [hn]
      obtain ⟨_, _, h3⟩ := HS.out.now
      obtain ⟨bk, o, eA, _⟩ := h3 (by omega)
      subst eA
      clear h3 hm
      have hcc : c = n ∨ c ≠ n := by omega
      refine or2 hcc ?cA ?cB
      case' cA =>
        intro hc1
        have hrb : Foot (fun k => k < q) (Rb (.slice (some ⟨bk, o, none⟩) 0 0) (xs.drop n)) w := by
          rw [List.drop_eq_nil_of_le (by rw [HM.out]; omega)]
          exact rb_empty
        obtain rfl : m = n := by omega
        subst hc1
        have HRB := hid hrb
        clear hrb
        go_wp2_with fail
      case' cB =>
        intro hc1
        have hrb := rb_drop HS.out (by rw [HM.out]; exact hle) hc1
        rw [HM.out] at hrb
        have HRB := hid hrb
        clear hrb
        go_wp2_with fail
      all_goals (
        refine bodyPost_ret (v := .string u) (by simp [results, Try.results60, go_sem]) rfl ⟨by rw [if_neg hnb], ?_, KQ.out _ _ _ _⟩
        rw [rdX, if_neg hnb]
        refine ⟨_, by rw [blk_set (blk_set HC1.out 1 _) 0]; rfl, HRB.out.step ((KQ.out _ _ _ _).mono fun k _ hk => Nat.ne_of_lt hk), ?_⟩
        rw [List.length_drop]
        omega)
set_option maxRecDepth 100000 in
set_option maxHeartbeats 2000000 in
theorem readb_any (q : Nat) (xs : By) (b : Bool) (w : World) (h : Rg q xs b w) :
    Calls Try.prog 77 #[.pointer (some ⟨q, 0, none⟩), .func (.func 78) #[] #[]] w (Rdone q xs b (getB xs).2 (.bool (getB xs).1) (.bool false) w) := by
  obtain ⟨v, hc, hf, hl⟩ := h
  obtain ⟨A, c, rfl, hcap, hS⟩ := rb_shape hf
  have HF := hid hf; have HS := hid hS; have HC := hid hc
  have c0 := blk_cell hc
  have hq := blk_lt hc
  have hle := getB_le xs
  obtain ⟨⟨u, n⟩, hg⟩ : ∃ g, getB xs = g := ⟨_, rfl⟩
  rw [hg] at hle
  dsimp only at hle
  have HG := hid hg
  rw [hg]
  dsimp only
  clear hf hS hc hg
  go_enter Try.func77, Try.ntmps77
  go_wp2_with fail
  refine (getbool_any _ xs _ (HF.out.mono fun _ _ _ => trivial)).mono ?_
  rintro e w1 ⟨rfl, hk1⟩
  rw [HG.out]
  dsimp only
  have hc1 := hk1.heap HC.out trivial
  have c1 := blk_cell hc1
  have f1 := blk_free hc1
  have HC1 := hid hc1; have HK1 := hid hk1
  clear hk1 hc1 c0
  have kq : ∀ (u v : Value) (i j : Nat), Kp (fun k => k ≠ q) w ((w1.setCell ⟨q, i, none⟩ u).setCell ⟨q, j, none⟩ v) := fun u v i j => ((HK1.out.all).setOut (by simp) _).setOut (by simp) _
  have kq1 : ∀ (u v : Value) (i j : Nat), Kp (fun k => k ≠ q) w1 ((w1.setCell ⟨q, i, none⟩ u).setCell ⟨q, j, none⟩ v) := fun u v i j => ((Kp.refl _ _).setOut (by simp) _).setOut (by simp) _
  have KQ := hid kq; have KQ1 := hid kq1
  clear kq kq1
  cases b with
  | true =>
    go_wp2_with fail
    refine bodyPost_ret (v := .bool false) (by simp [results, Try.results77, go_sem]) rfl ⟨by rw [if_pos (Or.inl rfl)], ?_, KQ.out _ _ _ _⟩
    rw [rdX, if_pos (Or.inl rfl)]
    exact ⟨.slice none 0 0, by rw [blk_set (blk_set HC1.out 1 _) 0]; simp, rb_empty, by simp⟩
  | false =>
    by_cases hn : n = 0
    · have d0 : ((n : Int) == 0) = true := by simp [hn]
      go_wp2_with fail
      refine bodyPost_ret (v := .bool false) (by simp [results, Try.results77, go_sem]) rfl ⟨by rw [if_pos (Or.inr hn)], ?_, KQ.out _ _ _ _⟩
      rw [rdX, if_pos (Or.inr hn)]
      exact ⟨.slice none 0 0, by rw [blk_set (blk_set HC1.out 1 _) 0]; simp, rb_empty, by simp⟩
    · have d0 : ((n : Int) == 0) = false := by simp [hn]
      obtain ⟨m, hm⟩ : ∃ m, xs.length = m := ⟨_, rfl⟩
      have HM := hid hm
      rw [hm] at hle hcap c1
      have j1 : (n : Int) ≤ (m : Int) := by omega
      have j2 : (0 : Int) ≤ (n : Int) := by omega
      have j3 : (m : Int) ≤ (c : Int) := by omega
      have hnb : ¬ (false = true ∨ n = 0) := by simp [hn]
      obtain ⟨_, _, h3⟩ := HS.out.now
      obtain ⟨bk, o, eA, _⟩ := h3 (by omega)
      subst eA
      clear h3 hm
      have hcc : c = n ∨ c ≠ n := by omega
      refine or2 hcc ?cA ?cB
      case' cA =>
        intro hc1
        have hrb : Foot (fun k => k < q) (Rb (.slice (some ⟨bk, o, none⟩) 0 0) (xs.drop n)) w := by
          rw [List.drop_eq_nil_of_le (by rw [HM.out]; omega)]
          exact rb_empty
        obtain rfl : m = n := by omega
        subst hc1
        have HRB := hid hrb
        clear hrb
        go_wp2_with fail
      case' cB =>
        intro hc1
        have hrb := rb_drop HS.out (by rw [HM.out]; exact hle) hc1
        rw [HM.out] at hrb
        have HRB := hid hrb
        clear hrb
        go_wp2_with fail
      all_goals (
        refine bodyPost_ret (v := .bool u) (by simp [results, Try.results77, go_sem]) rfl ⟨by rw [if_neg hnb], ?_, KQ.out _ _ _ _⟩
        rw [rdX, if_neg hnb]
        refine ⟨_, by rw [blk_set (blk_set HC1.out 1 _) 0]; rfl, HRB.out.step ((KQ.out _ _ _ _).mono fun k _ hk => Nat.ne_of_lt hk), ?_⟩
        rw [List.length_drop]
        omega)
end Go.Proofs.Ytkipijdbkkcioaa
