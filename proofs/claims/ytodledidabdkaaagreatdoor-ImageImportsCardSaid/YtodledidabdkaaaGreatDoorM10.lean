/- image.Export walked: a map in bytes. No condition but that the texts are not too long. slices.Equal over two rows of pairs, and image.Same: walked once. No condition. -/
import Derived.Test.YtodledidabdkaaaGreatDoorM8
import Derived.Test.YtodledidabdkaaaGreatDoorM9
import Derived.Laws.StructEq
set_option linter.unusedVariables false
set_option linter.unusedSimpArgs false
namespace Go.Proofs.YtodledidabdkaaaGreatDoor
open Go.RowKit Go.Shelf Go.Sort V
set_option linter.unusedVariables false
set_option linter.unusedSimpArgs false
set_option maxRecDepth 100000 in
set_option maxHeartbeats 1000000 in
theorem iexport_any (k0 k1 : Nat) (po : Option Nat) (M : Mp) (O : Nat → Prop) (w : World) (hsz : ∀ x ∈ pairsP M, x.1.size + x.2.size ≤ 1000000) (h : Lo k0 k1 po M O w) : Calls Tryz.prog 19 #[mV po] w (OutB w (encImg (pairsP M))) := by
  have HALL := hid (fun w => ipairs_any k0 k1 po M O w)
  have HL := hid h
  have hmv : ∃ x, mV po = .pointer x := ⟨_, rfl⟩
  obtain ⟨xm, hx⟩ := hmv
  rw [hx] at HALL
  rw [hx]
  have hlen := h.plen
  have HSZ := hid hsz
  clear h hsz
  obtain ⟨L, hL⟩ : ∃ L, pairsP M = L := ⟨_, rfl⟩
  rw [hL] at HALL hlen HSZ ⊢
  go_enter Tryz.func19, Tryz.ntmps19
  go_wp2_with fail
  refine (HALL.out w HL.out).mono ?_
  rintro e w2 ⟨v, rfl, hrow, k2⟩
  obtain ⟨A, c, rfl⟩ := own_shape hrow
  have HF := hid (own_foot2 hrow)
  have HK2 := hid k2
  clear hrow k2
  go_wp2_with fail
  refine (put_any _ [] L.length (by omega) (by simp) _ (rb_nil _)).mono ?_
  rintro e w3 ⟨⟨v3, rfl, hr3⟩, k3⟩
  obtain ⟨A3, c3, rfl⟩ := own_shape hr3
  have HR3 := hid hr3
  have HK3 := hid k3
  clear hr3 k3
  have hst : w3.ownsRow w2.heap.size 5 1 (.slice A3 ([] ++ enc L.length).length c3) (enc L.length ++ (L.take 0).flatMap encPr).length (u8s (enc L.length ++ (L.take 0).flatMap encPr)) := by
    have h := HR3.out
    simp only [List.take_zero, List.flatMap_nil, List.append_nil]
    exact h
  have HST := hid (own_mono hst HK2.out.size)
  have HF3 := hid (HF.out.step HK3.out)
  have HK03 := hid (HK2.out.trans HK3.out)
  clear hst
  obtain ⟨v3, hv3⟩ : ∃ v3, Value.slice A3 ([] ++ enc L.length).length c3 = v3 := ⟨_, rfl⟩
  obtain ⟨n, hn⟩ : ∃ n, L.length = n := ⟨_, rfl⟩
  have HN := hid hn
  rw [hn] at HF3 HST hlen hv3 ⊢
  rw [hv3] at HST ⊢
  clear hv3 HF HR3 hn HALL
  go_wp2_with fail
  go_loopw [4, 15] (fun x i wr => ∃ (k : Nat), k ≤ n ∧ i = .int .i64 k ∧ Hid (wr.ownsRow w.heap.size 5 1 x (enc n ++ (L.take k).flatMap encPr).length (u8s (enc n ++ (L.take k).flatMap encPr))) ∧ Hid (Kp All w wr) ∧ Hid (Kp All w3 wr)) (fun _ i _ => n - (ivl i).toNat)
  case atStart => exact ⟨0, Nat.zero_le _, rfl, HST, HK03, Kp.refl _ _⟩
  case round =>
    obtain ⟨k, hk, rfl, hown, hkp, hkp3⟩ := hrel
    by_cases hlt : k < n
    · have hb0 : decide ((k : Int) < (n : Int)) = true := decide_eq_true (by omega)
      obtain ⟨p, hpk⟩ : ∃ p, L[k]? = some p := ⟨_, List.getElem?_eq_getElem (by rw [HN.out]; exact hlt)⟩
      obtain ⟨b, o, rfl, hr⟩ := (HF3.out wr hkp3.out).2.2 (by omega)
      obtain ⟨p1s, p2s⟩ := p
      obtain ⟨g1, g2⟩ := scs_get hpk
      have p1 := hr _ _ g1
      have p2 := hr _ _ g2
      rw [← Nat.add_assoc] at p2
      dsimp only at p1 p2
      have ht : (L.take (k + 1)).flatMap encPr = (L.take k).flatMap encPr ++ (encText p1s ++ encText p2s) := by
        rw [List.take_add_one, hpk, List.flatMap_append]
        simp [encPr]
      have hsz := HSZ.out (p1s, p2s) (List.mem_of_getElem? hpk)
      dsimp only at hsz
      have hcl : ((L.take k).flatMap encPr).length ≤ 2000 * 1000018 := by
        refine Nat.le_trans (encPrs_len _ fun x hx => HSZ.out x (List.mem_of_mem_take hx)) (Nat.mul_le_mul_right _ ?_)
        rw [List.length_take]; omega
      have hnl := enc_len_le n
      have hp1 := encText_len p1s
      have HT := hid ht
      obtain ⟨cur, hcur⟩ : ∃ cur, enc n ++ (L.take k).flatMap encPr = cur := ⟨_, rfl⟩
      have hL1 : Hid (cur.length + p1s.size ≤ 140737488200000) := hid (by rw [← hcur, List.length_append]; omega)
      have hL2 : Hid ((cur ++ encText p1s).length + p2s.size ≤ 140737488200000) := hid (by rw [← hcur, List.length_append, List.length_append]; omega)
      rw [hcur] at hown
      have HCUR := hid hcur
      have hb1 := World.block_lt_of_cell? _ _ p1
      have i0 : (0 : Int) ≤ (k : Int) := by omega
      have i1 : (k : Int) < (n : Int) := by omega
      clear hpk ht hcur g1 g2 hr hsz hcl hnl hp1
      go_wp2_with fail
      have b7 := blk_new wr (.cells #[.string p1s, .string p2s] 35)
      have k7 : Kp All wr (wr.alloc (.cells #[.string p1s, .string p2s] 35)) := Kp.al _ _
      obtain ⟨W7, hW7⟩ : ∃ W7, W7 = wr.alloc (.cells #[.string p1s, .string p2s] 35) := ⟨_, rfl⟩
      rw [← hW7] at b7 k7 ⊢
      have c7 := blk_cell b7
      have B7 := hid b7
      have HO7 := hid (own_kept hown.out k7 (fun _ _ => trivial))
      have HK7 := hid (hkp.out.trans k7)
      have HK73 := hid (hkp3.out.trans k7)
      clear b7 hW7 k7 p1 p2
      go_region_held3 (fun w' => ∀ i, w'.cell? ⟨wr.heap.size, i, none⟩ = (#[.string p1s, .string p2s] : Array Value)[i]?) (first | exact blk_cell (HK8.out.heap B7.out trivial) | exact blk_cell (HK9.out.heap B7.out trivial) | assumption) (first | (go_at_call 53; refine (puttext_any _ (cur ++ encText p1s) p2s hL2.out _ (own_rb H8.out)).mono ?_; rintro e w9 ⟨⟨v9, rfl, h9⟩, k9⟩; have H9 := hid h9; have HK9 := hid (HK8.out.trans k9); clear h9 k9) | (go_at_call 53; refine (puttext_any _ cur p1s hL1.out _ (own_rb (own_kept HO7.out (Kp.refl All _).drew (fun _ _ => trivial)))).mono ?_; rintro e w8 ⟨⟨v8, rfl, h8⟩, k8⟩; have H8 := hid h8; have HK8 := hid ((Kp.refl All W7).drew.trans k8); clear h8 k8))
      go_wp2_with fail
      have hs8 : w.heap.size ≤ w8.heap.size := (HK7.out.trans HK8.out).size
      have e9 : enc n ++ (L.take (k + 1)).flatMap encPr = cur ++ encText p1s ++ encText p2s := by
        rw [HT.out, ← List.append_assoc, HCUR.out, ← List.append_assoc]
      have h9 := own_mono H9.out hs8
      rw [← e9] at h9
      refine ⟨⟨k + 1, by omega, by go_num, hid h9, hid (HK7.out.trans HK9.out), hid (HK73.out.trans HK9.out)⟩, ?_⟩
      simp [ivl]
      omega
    · have hb0 : decide ((k : Int) < (n : Int)) = false := decide_eq_false (by omega)
      have : k = n := by omega
      subst this
      have hf : enc k ++ (L.take k).flatMap encPr = encImg L := by
        unfold encImg
        rw [List.take_of_length_le (by rw [HN.out]; exact Nat.le_refl _), HN.out]
      rw [hf] at hown
      go_wp2_with fail
      go_ret
      exact ⟨⟨_, rfl, hown.out⟩, hkp.out⟩
end Go.Proofs.YtodledidabdkaaaGreatDoor

namespace Go.Proofs.YtodledidabdkaaaGreatDoor
open Go.RowKit V
set_option linter.unusedVariables false
set_option linter.unusedSimpArgs false
theorem neq_pair (a b c d : Tx) (w : World) : Sem.run Tryz.prog (binOp .neq 35 (.agg #[.string a, .string b]) (.agg #[.string c, .string d])) w = .ok (.bool (!decide ((a, b) = (c, d)))) w := by
  have he : Sem.run Tryz.prog (Op.equalIn 10000 35 (.agg #[.string a, .string b]) (.agg #[.string c, .string d])) w = .ok ((a.toList == c.toList) && ((b.toList == d.toList) && true)) w := by
    refine eq_of_fields Tryz.underlying35 (by kernel_rfl) ?_
    refine eqf_cons (by rfl) (by go_simp; rfl) (by go_simp; rfl) (by go_simp) ?_
    exact eqf_cons (by rfl) (by go_simp; rfl) (by go_simp; rfl) (by go_simp) eqf_nil
  have hd : (decide ((a, b) = (c, d))) = ((a.toList == c.toList) && ((b.toList == d.toList) && true)) := by
    rw [beq_tx, beq_tx]
    by_cases h1 : a = c <;> by_cases h2 : b = d
    · subst h1 h2; simp
    · have : ¬ bl b = bl d := fun e => h2 (bl_inj e)
      simp [h2, this]
    · have : ¬ bl a = bl c := fun e => h1 (bl_inj e)
      simp [h1, this]
    · have : ¬ bl a = bl c := fun e => h1 (bl_inj e)
      simp [h1, this]
  rw [run_neq_struct, he, hd]
  rfl
set_option maxRecDepth 100000 in
theorem equalp_any (A A' : Option Addr) (n n' c c' : Nat) (xs ys : List Slot) (hn : xs.length = n) (hn' : ys.length = n') (hl : n ≤ 9000000000000000000) (hl' : n' ≤ 9000000000000000000) (w : World) (h : Foot All (Sl A n c 2 (scs xs)) w) (h' : Foot All (Sl A' n' c' 2 (scs ys)) w) :
    Calls Tryz.prog 62 #[.slice A n c, .slice A' n' c'] w fun e w' => e = .returned (.bool (decide (xs = ys))) ∧ Kp All w w' := by
  have H := hid h; have H' := hid h'; have HN := hid hn; have HN' := hid hn'
  clear h h' hn hn'
  by_cases he : n = n'
  · subst he
    have bne : (!((n : Int) == (n : Int))) = false := by simp
    obtain ⟨r, hr⟩ : ∃ r, decide (xs = ys) = r := ⟨_, rfl⟩
    have HR := hid hr
    rw [hr]
    clear hr
    go_enter Tryz.func62, Tryz.ntmps62
    go_wp2_with fail
    go_loopw [13] (fun i wr => ∃ k : Nat, k ≤ n ∧ i = .int .i64 k ∧ Hid (xs.take k = ys.take k) ∧ Hid (Kp All w wr)) (fun i _ => n - (ivl i).toNat)
    case atStart => exact ⟨0, Nat.zero_le _, rfl, rfl, Kp.refl _ _⟩
    case round =>
      obtain ⟨k, hk, rfl, hT, hkp⟩ := hrel
      by_cases hlt : k < n
      · have hb0 : decide ((k : Int) < (n : Int)) = true := decide_eq_true (by omega)
        obtain ⟨x, hx⟩ : ∃ x, xs[k]? = some x := ⟨_, List.getElem?_eq_getElem (by rw [HN.out]; exact hlt)⟩
        obtain ⟨y, hy⟩ : ∃ y, ys[k]? = some y := ⟨_, List.getElem?_eq_getElem (by rw [HN'.out]; exact hlt)⟩
        obtain ⟨b, o, rfl, hc⟩ := (H.out wr hkp.out).2.2 (by omega)
        obtain ⟨b', o', rfl, hc'⟩ := (H'.out wr hkp.out).2.2 (by omega)
        obtain ⟨x1, x2⟩ := x
        obtain ⟨y1, y2⟩ := y
        obtain ⟨g1, g2⟩ := scs_get hx
        obtain ⟨g3, g4⟩ := scs_get hy
        have p1 := hc _ _ g1
        have p2 := hc _ _ g2
        have p3 := hc' _ _ g3
        have p4 := hc' _ _ g4
        rw [← Nat.add_assoc] at p2 p4
        dsimp only at p1 p2 p3 p4
        have hnq := fun w => neq_pair x1 x2 y1 y2 w
        have i0 : (0 : Int) ≤ (k : Int) := by omega
        have i1 : (k : Int) < (n : Int) := by omega
        have HX := hid hx; have HY := hid hy
        clear hx hy g1 g2 g3 g4 hc hc'
        by_cases hxy : (x1, x2) = (y1, y2)
        · rw [show (!decide ((x1, x2) = (y1, y2))) = false from by rw [decide_eq_true hxy]; rfl] at hnq
          have HT2 := hid (show xs.take (k + 1) = ys.take (k + 1) by rw [List.take_add_one, List.take_add_one, hT.out, HX.out, HY.out, hxy])
          go_wp2_with fail
          go_quiet (fail)
          go_wp2_with fail
          exact ⟨⟨k + 1, by omega, by go_num, HT2, hkp.out.drewN _⟩, by simp [ivl]; omega⟩
        · rw [show (!decide ((x1, x2) = (y1, y2))) = true from by rw [decide_eq_false hxy]; rfl] at hnq
          have hrf : r = false := by
            rw [← HR.out]
            exact decide_eq_false (fun e => by rw [e, HY.out] at HX; exact hxy (by injection HX.out with h; exact h.symm))
          subst hrf
          go_wp2_with fail
          go_quiet (fail)
          go_wp2_with fail
          go_ret
          exact ⟨rfl, hkp.out.drewN _⟩
      · have hb0 : decide ((k : Int) < (n : Int)) = false := decide_eq_false (by omega)
        obtain rfl : k = n := by omega
        have hrt : r = true := by
          rw [← HR.out]
          have h1 := hT.out
          rw [List.take_of_length_le (by rw [HN.out]; omega), List.take_of_length_le (by rw [HN'.out]; omega)] at h1
          exact decide_eq_true h1
        subst hrt
        go_wp2_with fail
        go_ret
        exact ⟨rfl, hkp.out⟩
  · have bne : (!((n : Int) == (n' : Int))) = true := by simp; omega
    have hrf : decide (xs = ys) = false := decide_eq_false (fun e => he (by rw [← HN.out, ← HN'.out, e]))
    rw [hrf]
    go_enter Tryz.func62, Tryz.ntmps62
    go_wp2_with fail
    go_ret
    exact ⟨rfl, Kp.refl _ _⟩
set_option maxRecDepth 100000 in
theorem isame_any (k0 k1 k0' k1' : Nat) (po po' : Option Nat) (M M' : Mp) (O O' : Nat → Prop) (w : World) (h : Lo k0 k1 po M O w) (h' : Lo k0' k1' po' M' O' w) : Calls Tryz.prog 31 #[mV po, mV po'] w fun e w' => e = .returned (.bool (decide (pairsP M = pairsP M'))) ∧ Kp All w w' := by
  have HP := hid (fun w => ipairs_any k0 k1 po M O w)
  have HP' := hid (fun w => ipairs_any k0' k1' po' M' O' w)
  have HL := hid h
  have HL' := hid h'
  have hmv : ∃ x, mV po = .pointer x := ⟨_, rfl⟩
  obtain ⟨xm, hx⟩ := hmv
  have hmv : ∃ x, mV po' = .pointer x := ⟨_, rfl⟩
  obtain ⟨xm', hx'⟩ := hmv
  rw [hx] at HP
  rw [hx'] at HP'
  rw [hx, hx']
  have hlen := h.plen
  have hlen' := h'.plen
  clear h h'
  go_enter Tryz.func31, Tryz.ntmps31
  go_wp2_with fail
  refine (HP.out w HL.out).mono ?_
  rintro e w2 ⟨v, rfl, hrow, k2⟩
  obtain ⟨A, c, rfl⟩ := own_shape hrow
  have HF := hid (own_foot2 hrow)
  have HK2 := hid k2
  clear hrow k2
  go_wp2_with fail
  refine (HP'.out w2 (HL'.out.all HK2.out)).mono ?_
  rintro e w3 ⟨v', rfl, hrow', k3⟩
  obtain ⟨A', c', rfl⟩ := own_shape hrow'
  have HF' := hid (own_foot2 hrow')
  have HK3 := hid k3
  clear hrow' k3
  go_wp2_with fail
  refine (equalp_any A A' _ _ c c' (pairsP M) (pairsP M') rfl rfl (by omega) (by omega) w3 (HF.out.step HK3.out) HF'.out).mono ?_
  rintro e w4 ⟨rfl, k4⟩
  have HK4 := hid k4
  clear k4
  go_wp2_with fail
  go_ret
  exact ⟨rfl, HK2.out.trans (HK3.out.trans HK4.out)⟩
end Go.Proofs.YtodledidabdkaaaGreatDoor
