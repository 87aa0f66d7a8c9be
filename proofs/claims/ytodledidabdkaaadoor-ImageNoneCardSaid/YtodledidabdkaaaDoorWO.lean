/- slices.Equal over two rows of pairs, and image.Same: walked once. No condition. -/
import Derived.Test.YtodledidabdkaaaDoorWN
import Derived.Laws.StructEq
namespace Go.Proofs.YtodledidabdkaaaDoor
open Go.RowKit V
set_option linter.unusedVariables false
set_option linter.unusedSimpArgs false
theorem neq_pair (a b c d : Tx) (w : World) : Sem.run Tryd.prog (binOp .neq 42 (.agg #[.string a, .string b]) (.agg #[.string c, .string d])) w = .ok (.bool (!decide ((a, b) = (c, d)))) w := by
  have he : Sem.run Tryd.prog (Op.equalIn 10000 42 (.agg #[.string a, .string b]) (.agg #[.string c, .string d])) w = .ok ((a.toList == c.toList) && ((b.toList == d.toList) && true)) w := by
    refine eq_of_fields Tryd.underlying42 (by kernel_rfl) ?_
    refine eqf_cons (by rfl) (by go_simp; rfl) (by go_simp; rfl) (by go_simp) ?_
    exact eqf_cons (by rfl) (by go_simp; rfl) (by go_simp; rfl) (by go_simp) eqf_nil
  have hd : (decide ((a, b) = (c, d))) = ((a.toList == c.toList) && ((b.toList == d.toList) && true)) := by
    rw [beq_tx, beq_tx]
    by_cases h1 : a = c <;> by_cases h2 : b = d
    · subst h1 h2; simp
    · have : ¬ bl b = bl d := fun e => h2 (bl_inj e)
      simp [h2, this]
    · have : ¬ bl a = bl c := fun e => h1 (bl_inj e)
      simp [h1, this]
    · have : ¬ bl a = bl c := fun e => h1 (bl_inj e)
      simp [h1, this]
  rw [run_neq_struct, he, hd]
  rfl
set_option maxRecDepth 100000 in
theorem equalp_any (A A' : Option Addr) (n n' c c' : Nat) (xs ys : List Slot) (hn : xs.length = n) (hn' : ys.length = n') (hl : n ≤ 9000000000000000000) (hl' : n' ≤ 9000000000000000000) (w : World) (h : Foot All (Sl A n c 2 (scs xs)) w) (h' : Foot All (Sl A' n' c' 2 (scs ys)) w) :
    Calls Tryd.prog 31 #[.slice A n c, .slice A' n' c'] w fun e w' => e = .returned (.bool (decide (xs = ys))) ∧ Kp All w w' := by
  have H := hid h; have H' := hid h'; have HN := hid hn; have HN' := hid hn'
  clear h h' hn hn'
  by_cases he : n = n'
  · subst he
    have bne : (!((n : Int) == (n : Int))) = false := by simp
    obtain ⟨r, hr⟩ : ∃ r, decide (xs = ys) = r := ⟨_, rfl⟩
    have HR := hid hr
    rw [hr]
    clear hr
    go_enter Tryd.func31, Tryd.ntmps31
    go_wp2_with fail
    go_loopw [13] (fun i wr => ∃ k : Nat, k ≤ n ∧ i = .int .i64 k ∧ Hid (xs.take k = ys.take k) ∧ Hid (Kp All w wr)) (fun i _ => n - (ivl i).toNat)
    case atStart => exact ⟨0, Nat.zero_le _, rfl, rfl, Kp.refl _ _⟩
    case round =>
      obtain ⟨k, hk, rfl, hT, hkp⟩ := hrel
      by_cases hlt : k < n
      · have hb0 : decide ((k : Int) < (n : Int)) = true := decide_eq_true (by omega)
        obtain ⟨x, hx⟩ : ∃ x, xs[k]? = some x := ⟨_, List.getElem?_eq_getElem (by rw [HN.out]; exact hlt)⟩
        obtain ⟨y, hy⟩ : ∃ y, ys[k]? = some y := ⟨_, List.getElem?_eq_getElem (by rw [HN'.out]; exact hlt)⟩
        obtain ⟨b, o, rfl, hc⟩ := (H.out wr hkp.out).2.2 (by omega)
        obtain ⟨b', o', rfl, hc'⟩ := (H'.out wr hkp.out).2.2 (by omega)
        obtain ⟨x1, x2⟩ := x
        obtain ⟨y1, y2⟩ := y
        obtain ⟨g1, g2⟩ := scs_get hx
        obtain ⟨g3, g4⟩ := scs_get hy
        have p1 := hc _ _ g1
        have p2 := hc _ _ g2
        have p3 := hc' _ _ g3
        have p4 := hc' _ _ g4
        rw [← Nat.add_assoc] at p2 p4
        dsimp only at p1 p2 p3 p4
        have hnq := fun w => neq_pair x1 x2 y1 y2 w
        have i0 : (0 : Int) ≤ (k : Int) := by omega
        have i1 : (k : Int) < (n : Int) := by omega
        have HX := hid hx; have HY := hid hy
        clear hx hy g1 g2 g3 g4 hc hc'
        by_cases hxy : (x1, x2) = (y1, y2)
        · rw [show (!decide ((x1, x2) = (y1, y2))) = false from by rw [decide_eq_true hxy]; rfl] at hnq
          have HT2 := hid (show xs.take (k + 1) = ys.take (k + 1) by rw [List.take_add_one, List.take_add_one, hT.out, HX.out, HY.out, hxy])
          go_wp2_with fail
          go_quiet (fail)
          go_wp2_with fail
          exact ⟨⟨k + 1, by omega, by go_num, HT2, hkp.out.drewN _⟩, by simp [ivl]; omega⟩
        · rw [show (!decide ((x1, x2) = (y1, y2))) = true from by rw [decide_eq_false hxy]; rfl] at hnq
          have hrf : r = false := by
            rw [← HR.out]
            exact decide_eq_false (fun e => by rw [e, HY.out] at HX; exact hxy (by injection HX.out with h; exact h.symm))
          subst hrf
          go_wp2_with fail
          go_quiet (fail)
          go_wp2_with fail
          go_ret
          exact ⟨rfl, hkp.out.drewN _⟩
      · have hb0 : decide ((k : Int) < (n : Int)) = false := decide_eq_false (by omega)
        obtain rfl : k = n := by omega
        have hrt : r = true := by
          rw [← HR.out]
          have h1 := hT.out
          rw [List.take_of_length_le (by rw [HN.out]; omega), List.take_of_length_le (by rw [HN'.out]; omega)] at h1
          exact decide_eq_true h1
        subst hrt
        go_wp2_with fail
        go_ret
        exact ⟨rfl, hkp.out⟩
  · have bne : (!((n : Int) == (n' : Int))) = true := by simp; omega
    have hrf : decide (xs = ys) = false := decide_eq_false (fun e => he (by rw [← HN.out, ← HN'.out, e]))
    rw [hrf]
    go_enter Tryd.func31, Tryd.ntmps31
    go_wp2_with fail
    go_ret
    exact ⟨rfl, Kp.refl _ _⟩
set_option maxRecDepth 100000 in
theorem isame_any (k0 k1 k0' k1' : Nat) (po po' : Option Nat) (M M' : Mp) (O O' : Nat → Prop) (w : World) (h : Lo k0 k1 po M O w) (h' : Lo k0' k1' po' M' O' w) : Calls Tryd.prog 12 #[mV po, mV po'] w fun e w' => e = .returned (.bool (decide (pairsP M = pairsP M'))) ∧ Kp All w w' := by
  have HP := hid (fun w => ipairs_any k0 k1 po M O w)
  have HP' := hid (fun w => ipairs_any k0' k1' po' M' O' w)
  have HL := hid h
  have HL' := hid h'
  have hmv : ∃ x, mV po = .pointer x := ⟨_, rfl⟩
  obtain ⟨xm, hx⟩ := hmv
  have hmv : ∃ x, mV po' = .pointer x := ⟨_, rfl⟩
  obtain ⟨xm', hx'⟩ := hmv
  rw [hx] at HP
  rw [hx'] at HP'
  rw [hx, hx']
  have hlen := h.plen
  have hlen' := h'.plen
  clear h h'
  go_enter Tryd.func12, Tryd.ntmps12
  go_wp2_with fail
  refine (HP.out w HL.out).mono ?_
  rintro e w2 ⟨v, rfl, hrow, k2⟩
  obtain ⟨A, c, rfl⟩ := own_shape hrow
  have HF := hid (own_foot2 hrow)
  have HK2 := hid k2
  clear hrow k2
  go_wp2_with fail
  refine (HP'.out w2 (HL'.out.all HK2.out)).mono ?_
  rintro e w3 ⟨v', rfl, hrow', k3⟩
  obtain ⟨A', c', rfl⟩ := own_shape hrow'
  have HF' := hid (own_foot2 hrow')
  have HK3 := hid k3
  clear hrow' k3
  go_wp2_with fail
  refine (equalp_any A A' _ _ c c' (pairsP M) (pairsP M') rfl rfl (by omega) (by omega) w3 (HF.out.step HK3.out) HF'.out).mono ?_
  rintro e w4 ⟨rfl, k4⟩
  have HK4 := hid k4
  clear k4
  go_wp2_with fail
  go_ret
  exact ⟨rfl, HK2.out.trans (HK3.out.trans HK4.out)⟩
end Go.Proofs.YtodledidabdkaaaDoor
