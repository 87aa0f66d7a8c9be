/- DiskRoom: the law's walk. No condition but that the acts lie as they were given. -/
import Derived.Test.YtdlbccjimdghkaaER
namespace Go.Proofs.Ytdlbccjimdghkaa
open Go.RowKit
set_option linter.unusedVariables false
set_option linter.unusedSimpArgs false
theorem used_off {D : DS} (h : D.off = false) : (if D.off then 0 else usedOf D.F D.B) = usedOf D.F D.B ∧ (if D.off then 0 else pend D.B) = pend D.B := by rw [h]; exact ⟨rfl, rfl⟩
set_option maxRecDepth 100000 in
set_option maxHeartbeats 4000000 in
theorem room_true (N : Nat) (A : Option Addr) (c : Nat) (xs : List A8) (n : Nat) (hn : xs.length = n) (w : World) (hs : Foot All (AS A xs) w) (hl : n ≤ 140737488351232) (hf : ∀ x ∈ xs, fine8 x) :
    Calls Try.prog 6 #[.int .u64 N, .slice A n c] w (Boo true w) := by
  have HS := hid hs; have HN := hid hn; have HF := hid hf
  obtain ⟨q, hq⟩ : ∃ q : Nat, (N : Int) % 20 = q := ⟨(N % 20), by omega⟩
  have hq19 : q ≤ 19 := by omega
  have hq1 : (0 : Int) ≤ (N : Int) := by omega
  obtain ⟨fb, hfb⟩ : ∃ fb, decide (tot xs ≤ 300) = fb := ⟨_, rfl⟩
  have HFB := hid hfb
  clear hs hn hf hfb
  go_enter Try.func6, Try.ntmps6
  go_wp2_with fail
  have HQ := hid hq
  clear hq
  refine (dnew_any q (by omega) (by omega) w).mono ?_
  rintro e w0 ⟨⟨p, ro0, rfl, hd0, hro0⟩, hk0⟩
  have HW : Hid (DW w w0 p ro0 ⟨q, false, 0, 0, 0, [], []⟩) := hid ⟨hd0, hk0, hro0⟩
  clear hd0 hk0 hro0
  go_wp2_with fail
  refine (few_any A c xs n HN.out w0 (HS.out.step HW.out.kp) hl HF.out).mono ?_
  rw [HFB.out]
  rintro e w1 ⟨rfl, hk1⟩
  have HW1 := hid (HW.out.all hk1)
  clear hk1 HW
  have HW := HW1
  clear HW1
  cases fb with
  | false =>
    go_wp2_with fail
    refine (lives_true _).mono ?_
    rintro e w2 ⟨rfl, hk⟩
    have HK := hid hk
    clear hk
    go_wp2_with fail
    go_ret
    exact ⟨rfl, HW.out.kp.trans HK.out⟩
  | true =>
  have hfew : Hid (tot xs ≤ 300) := hid (of_decide_eq_true HFB.out)
  go_wp2_with fail
  go_loopw [33] (fun jj wr => ∃ (j : Nat) (ro : Nat → Role) (D : DS), j ≤ n ∧ jj = .int .i64 j ∧ Hid (DW w wr p ro D) ∧ Hid (KR q j D)) (fun jj _ => n - (intOf jj).toNat)
  case atStart => exact ⟨0, ro0, _, Nat.zero_le _, rfl, HW.out, ⟨rfl, rfl, rfl, by simp, by simp, by simp, by simp⟩⟩
  case round =>
    obtain ⟨j, ro, D, hj, rfl, HW, hKR⟩ := hrel
    by_cases hlt2 : j < n
    · have hb1 : decide ((j : Int) < (n : Int)) = true := decide_eq_true (by omega)
      have j0 : (0 : Int) ≤ (j : Int) := by omega
      have j1 : (j : Int) < (n : Int) := by omega
      obtain ⟨x, hx⟩ : ∃ x, xs[j]? = some x := ⟨_, List.getElem?_eq_getElem (by rw [HN.out]; exact hlt2)⟩
      have hjt : j ≤ tot (xs.take j) := by
        have := le_tot2 (xs.take j)
        rw [List.length_take] at this
        have := HN.out
        omega
      have htk := tot_take hx
      have htl := tot_take_le xs (j + 1)
      have hfx := HF.out x (List.mem_of_getElem? hx)
      obtain ⟨b, o, rfl, hA⟩ := HS.out wr HW.out.kp (by rw [HN.out]; omega)
      have hc := (hA j x hx).1
      have hdat : Foot (fun z => ro z = .none) (Sl x.A x.data.length x.c 1 (u8s x.data)) (wr.alloc (.cells (a8cells x).toArray 34)) := by
        intro u hu
        obtain ⟨b', o', e', hA'⟩ := HS.out u ((HW.out.kp.alloc _).then hu (fun i hi _ => HW.out.rn i hi)) (by rw [HN.out]; omega)
        exact (hA' j x hx).2
      have d0 := hc 0 _ rfl; have d1 := hc 1 _ rfl; have d2 := hc 2 _ rfl; have d3 := hc 3 _ rfl; have d4 := hc 4 _ rfl; have d5 := hc 5 _ rfl
      rw [Nat.add_zero] at d0
      obtain ⟨f1, f2, f3⟩ := hfx
      have hw1 := HW.out.all (Kp.al wr (.cells (a8cells x).toArray 34))
      have hbx := blk_new wr (.cells (a8cells x).toArray 34)
      have hrx : ro wr.heap.size = .none := by
        obtain ⟨m', fp', bv', BV', hD'⟩ := HW.out.dk
        exact hD'.rnew _ (Nat.le_refl _)
      have HBX := hid hbx
      have cbx := blk_cell hbx
      unfold a8cells at cbx
      have hok := hKR.out.ok (by have := hfew.out; omega)
      obtain ⟨hus, hnd, hbn, hpl⟩ := HW.out.dk.us
      obtain ⟨hu0, hp0⟩ := used_off hKR.out.off
      obtain ⟨u, hu⟩ : ∃ u, usedOf D.F D.B = u := ⟨_, rfl⟩
      obtain ⟨pd, hpd⟩ : ∃ pd, pend D.B = pd := ⟨_, rfl⟩
      replace hu0 := hu0.trans hu
      replace hp0 := hp0.trans hpd
      have HU := hid hu; have HPD := hid hpd; have HU0 := hid hu0; have HP0 := hid hp0; have HND := hid hnd
      have hdl : x.data.length ≤ 549755813888 := by have := hfew.out; unfold wt at htk; omega
      rw [hu] at hus
      rw [hpd] at hpl
      have HW1 := hid hw1; have HOK := hid hok; have HRX := hid hrx; have HDAT := hid hdat
      clear hc hA hx hw1 hok hrx hbx htk htl hjt hu hpd hu0 hp0 hnd hbn HW hdat
      have HW := HW1
      clear HW1
      by_cases hk5 : 5 < x.kind
      · have k5 : decide ((5 : Int) < x.kind) = true := decide_eq_true hk5
        clear hk5
        go_wp2_with fail
        exact ⟨⟨j + 1, ro, D, by omega, by go_num, HW.out, hKR.out.more⟩, by simp [intOf]; omega⟩
      by_cases hk0 : x.kind < 0
      · have k5 : decide ((5 : Int) < x.kind) = false := decide_eq_false hk5
        have k0 : decide (x.kind < 0) = true := decide_eq_true hk0
        clear hk5 hk0
        go_wp2_with fail
        exact ⟨⟨j + 1, ro, D, by omega, by go_num, HW.out, hKR.out.more⟩, by simp [intOf]; omega⟩
      have k5 : decide ((5 : Int) < x.kind) = false := decide_eq_false hk5
      have k0 : decide (x.kind < 0) = false := decide_eq_false hk0
      have hk6 : x.kind = 0 ∨ x.kind = 1 ∨ x.kind = 2 ∨ x.kind = 3 ∨ x.kind = 4 ∨ x.kind = 5 := by omega
      clear hk5 hk0
      rcases hk6 with hk | hk | hk | hk | hk | hk
      · have b0 : (x.kind == 0) = true := beq_iff_eq.2 hk
        clear hk
        go_wp2_with fail
        refine (used_any p ro D _ HW.out.dk).mono ?_
        rw [HU0.out]
        rintro e w3 ⟨rfl, rfl⟩
        go_wp2_with fail
        refine (pend_any p ro D _ HW.out.dk).mono ?_
        rw [HP0.out]
        rintro e w4 ⟨rfl, hk4⟩
        have HW4 := hid (HW.out.all hk4)
        have hbx4 := hk4.heap HBX.out trivial
        have HBX4 := hid hbx4
        have cbx4 := blk_cell hbx4
        have HDAT4 := hid (HDAT.out.step hk4.all)
        unfold a8cells at cbx4
        clear hk4 hbx4 cbx HW
        have HW := HW4
        clear HW4
        obtain ⟨ev, hev⟩ : ∃ ev, creErr D x.a = ev := ⟨_, rfl⟩
        obtain ⟨D2, hD2⟩ : ∃ D2, creD D x.a = D2 := ⟨_, rfl⟩
        have hfair := hKR.out.create x.a
        rw [hev, hD2] at hfair
        have HEV := hid hev; have HD2 := hid hD2; have HFAIR := hid hfair
        clear hev hD2 hfair
        go_wp2_with fail
        refine (create_any p ro D HOK.out x.a (by omega) w4 HW.out.dk).mono ?_
        rw [HEV.out, HD2.out]
        rintro e w5 ⟨rfl, hnx⟩
        (obtain ⟨ro5, hdw5⟩ := HW.out.next hnx; have HW5 := hid hdw5; clear hnx hdw5 HW; have HW := HW5; clear HW5)
        have HKR2 := hid HFAIR.out.kr
        obtain ⟨hus2, hnd2, hbn2, hpl2⟩ := HW.out.dk.us
        rw [HKR2.out.bl] at hus2
        obtain ⟨hu2, hp2⟩ := used_off HKR2.out.off
        have hsame := HFAIR.out.same
        rw [HU.out, HPD.out] at hsame
        obtain ⟨u2, hu2e⟩ : ∃ u2, usedOf D2.F D2.B = u2 := ⟨_, rfl⟩
        obtain ⟨pd2, hpd2e⟩ : ∃ pd2, pend D2.B = pd2 := ⟨_, rfl⟩
        replace hu2 := hu2.trans hu2e
        replace hp2 := hp2.trans hpd2e
        rw [hu2e] at hus2 hsame
        rw [hpd2e] at hsame hpl2
        have HU2 := hid hu2; have HP2 := hid hp2
        have z1 : ¬ (q : Int) < (u2 : Int) := by omega
        have z2 : ¬ (u2 : Int) < 0 := by omega
        by_cases hev0 : ev = 0
        · subst hev0
          clear hu2 hp2 hu2e hpd2e hsame hnd2 hbn2
          go_wp2_with fail
          refine (used_any p ro5 D2 _ HW.out.dk).mono ?_
          rw [HU2.out]
          rintro e w6 ⟨rfl, rfl⟩
          go_wp2_with fail
          refine (used_any p ro5 D2 _ HW.out.dk).mono ?_
          rw [HU2.out]
          rintro e w6 ⟨rfl, rfl⟩
          go_wp2_with fail
          exact ⟨⟨j + 1, ro5, D2, by omega, by go_num, HW.out, HKR2.out⟩, by simp [intOf]; omega⟩
        · obtain ⟨rfl, rfl⟩ := hsame hev0
          have be : (ev == 0) = false := beq_eq_false_iff_ne.2 hev0
          have bn : (ev != 0) = true := by rw [bne_iff_ne]; exact hev0
          clear hu2 hp2 hu2e hpd2e hsame hnd2 hbn2 hev0
          go_wp2_with fail
          refine (used_any p ro5 D2 _ HW.out.dk).mono ?_
          rw [HU2.out]
          rintro e w6 ⟨rfl, rfl⟩
          go_wp2_with fail
          refine (used_any p ro5 D2 _ HW.out.dk).mono ?_
          rw [HU2.out]
          rintro e w6 ⟨rfl, rfl⟩
          go_wp2_with fail
          refine (used_any p ro5 D2 _ HW.out.dk).mono ?_
          rw [HU2.out]
          rintro e w6 ⟨rfl, rfl⟩
          go_wp2_with fail
          refine (pend_any p ro5 D2 _ HW.out.dk).mono ?_
          rw [HP2.out]
          rintro e w7 ⟨rfl, hk7⟩
          have HW7 := hid (HW.out.all hk7)
          clear hk7
          go_wp2_with fail
          exact ⟨⟨j + 1, ro5, D2, by omega, by go_num, HW7.out, HKR2.out⟩, by simp [intOf]; omega⟩
      · have b0 : (x.kind == 0) = false := beq_eq_false_iff_ne.2 (by omega)
        have b1 : (x.kind == 1) = true := beq_iff_eq.2 hk
        clear hk
        go_wp2_with fail
        refine (used_any p ro D _ HW.out.dk).mono ?_
        rw [HU0.out]
        rintro e w3 ⟨rfl, rfl⟩
        go_wp2_with fail
        refine (pend_any p ro D _ HW.out.dk).mono ?_
        rw [HP0.out]
        rintro e w4 ⟨rfl, hk4⟩
        have HW4 := hid (HW.out.all hk4)
        have hbx4 := hk4.heap HBX.out trivial
        have HBX4 := hid hbx4
        have cbx4 := blk_cell hbx4
        have HDAT4 := hid (HDAT.out.step hk4.all)
        unfold a8cells at cbx4
        clear hk4 hbx4 cbx HW
        have HW := HW4
        clear HW4
        obtain ⟨ev, hev⟩ : ∃ ev, appErr D x.a x.data = ev := ⟨_, rfl⟩
        obtain ⟨D2, hD2⟩ : ∃ D2, appD D x.a x.data = D2 := ⟨_, rfl⟩
        have hfair := hKR.out.append x.a x.data
        rw [hev, hD2] at hfair
        have HEV := hid hev; have HD2 := hid hD2; have HFAIR := hid hfair
        clear hev hD2 hfair
        go_wp2_with fail
        refine (append_any p ro D HOK.out x.a x.data x.A x.c w4 HW.out.dk HDAT4.out hdl).mono ?_
        rw [HEV.out, HD2.out]
        rintro e w5 ⟨rfl, hnx⟩
        (obtain ⟨ro5, hdw5⟩ := HW.out.next hnx; have HW5 := hid hdw5; clear hnx hdw5 HW; have HW := HW5; clear HW5)
        have HKR2 := hid HFAIR.out.kr
        obtain ⟨hus2, hnd2, hbn2, hpl2⟩ := HW.out.dk.us
        rw [HKR2.out.bl] at hus2
        obtain ⟨hu2, hp2⟩ := used_off HKR2.out.off
        have hsame := HFAIR.out.same
        rw [HU.out, HPD.out] at hsame
        obtain ⟨u2, hu2e⟩ : ∃ u2, usedOf D2.F D2.B = u2 := ⟨_, rfl⟩
        obtain ⟨pd2, hpd2e⟩ : ∃ pd2, pend D2.B = pd2 := ⟨_, rfl⟩
        replace hu2 := hu2.trans hu2e
        replace hp2 := hp2.trans hpd2e
        rw [hu2e] at hus2 hsame
        rw [hpd2e] at hsame hpl2
        have HU2 := hid hu2; have HP2 := hid hp2
        have z1 : ¬ (q : Int) < (u2 : Int) := by omega
        have z2 : ¬ (u2 : Int) < 0 := by omega
        by_cases hev0 : ev = 0
        · subst hev0
          clear hu2 hp2 hu2e hpd2e hsame hnd2 hbn2
          go_wp2_with fail
          refine (used_any p ro5 D2 _ HW.out.dk).mono ?_
          rw [HU2.out]
          rintro e w6 ⟨rfl, rfl⟩
          go_wp2_with fail
          refine (used_any p ro5 D2 _ HW.out.dk).mono ?_
          rw [HU2.out]
          rintro e w6 ⟨rfl, rfl⟩
          go_wp2_with fail
          exact ⟨⟨j + 1, ro5, D2, by omega, by go_num, HW.out, HKR2.out⟩, by simp [intOf]; omega⟩
        · obtain ⟨rfl, rfl⟩ := hsame hev0
          have be : (ev == 0) = false := beq_eq_false_iff_ne.2 hev0
          have bn : (ev != 0) = true := by rw [bne_iff_ne]; exact hev0
          clear hu2 hp2 hu2e hpd2e hsame hnd2 hbn2 hev0
          go_wp2_with fail
          refine (used_any p ro5 D2 _ HW.out.dk).mono ?_
          rw [HU2.out]
          rintro e w6 ⟨rfl, rfl⟩
          go_wp2_with fail
          refine (used_any p ro5 D2 _ HW.out.dk).mono ?_
          rw [HU2.out]
          rintro e w6 ⟨rfl, rfl⟩
          go_wp2_with fail
          refine (used_any p ro5 D2 _ HW.out.dk).mono ?_
          rw [HU2.out]
          rintro e w6 ⟨rfl, rfl⟩
          go_wp2_with fail
          refine (pend_any p ro5 D2 _ HW.out.dk).mono ?_
          rw [HP2.out]
          rintro e w7 ⟨rfl, hk7⟩
          have HW7 := hid (HW.out.all hk7)
          clear hk7
          go_wp2_with fail
          exact ⟨⟨j + 1, ro5, D2, by omega, by go_num, HW7.out, HKR2.out⟩, by simp [intOf]; omega⟩
      · have b0 : (x.kind == 0) = false := beq_eq_false_iff_ne.2 (by omega)
        have b1 : (x.kind == 1) = false := beq_eq_false_iff_ne.2 (by omega)
        have b2 : (x.kind == 2) = true := beq_iff_eq.2 hk
        clear hk
        go_wp2_with fail
        refine (used_any p ro D _ HW.out.dk).mono ?_
        rw [HU0.out]
        rintro e w3 ⟨rfl, rfl⟩
        go_wp2_with fail
        refine (pend_any p ro D _ HW.out.dk).mono ?_
        rw [HP0.out]
        rintro e w4 ⟨rfl, hk4⟩
        have HW4 := hid (HW.out.all hk4)
        have hbx4 := hk4.heap HBX.out trivial
        have HBX4 := hid hbx4
        have cbx4 := blk_cell hbx4
        have HDAT4 := hid (HDAT.out.step hk4.all)
        unfold a8cells at cbx4
        clear hk4 hbx4 cbx HW
        have HW := HW4
        clear HW4
        obtain ⟨ev, hev⟩ : ∃ ev, syncErr D = ev := ⟨_, rfl⟩
        obtain ⟨D2, hD2⟩ : ∃ D2, syncD D = D2 := ⟨_, rfl⟩
        have hfair := hKR.out.sync
        rw [hev, hD2] at hfair
        have HEV := hid hev; have HD2 := hid hD2; have HFAIR := hid hfair
        clear hev hD2 hfair
        go_wp2_with fail
        refine (sync_any p ro D HOK.out w4 HW.out.dk).mono ?_
        rw [HEV.out, HD2.out]
        rintro e w5 ⟨rfl, hnx⟩
        (obtain ⟨ro5, hdw5⟩ := HW.out.next hnx; have HW5 := hid hdw5; clear hnx hdw5 HW; have HW := HW5; clear HW5)
        have HKR2 := hid HFAIR.out.kr
        obtain ⟨hus2, hnd2, hbn2, hpl2⟩ := HW.out.dk.us
        rw [HKR2.out.bl] at hus2
        obtain ⟨hu2, hp2⟩ := used_off HKR2.out.off
        have hsame := HFAIR.out.same
        rw [HU.out, HPD.out] at hsame
        obtain ⟨u2, hu2e⟩ : ∃ u2, usedOf D2.F D2.B = u2 := ⟨_, rfl⟩
        obtain ⟨pd2, hpd2e⟩ : ∃ pd2, pend D2.B = pd2 := ⟨_, rfl⟩
        replace hu2 := hu2.trans hu2e
        replace hp2 := hp2.trans hpd2e
        rw [hu2e] at hus2 hsame
        rw [hpd2e] at hsame hpl2
        have HU2 := hid hu2; have HP2 := hid hp2
        have z1 : ¬ (q : Int) < (u2 : Int) := by omega
        have z2 : ¬ (u2 : Int) < 0 := by omega
        by_cases hev0 : ev = 0
        · subst hev0
          clear hu2 hp2 hu2e hpd2e hsame hnd2 hbn2
          go_wp2_with fail
          refine (used_any p ro5 D2 _ HW.out.dk).mono ?_
          rw [HU2.out]
          rintro e w6 ⟨rfl, rfl⟩
          go_wp2_with fail
          refine (used_any p ro5 D2 _ HW.out.dk).mono ?_
          rw [HU2.out]
          rintro e w6 ⟨rfl, rfl⟩
          go_wp2_with fail
          exact ⟨⟨j + 1, ro5, D2, by omega, by go_num, HW.out, HKR2.out⟩, by simp [intOf]; omega⟩
        · obtain ⟨rfl, rfl⟩ := hsame hev0
          have be : (ev == 0) = false := beq_eq_false_iff_ne.2 hev0
          have bn : (ev != 0) = true := by rw [bne_iff_ne]; exact hev0
          clear hu2 hp2 hu2e hpd2e hsame hnd2 hbn2 hev0
          go_wp2_with fail
          refine (used_any p ro5 D2 _ HW.out.dk).mono ?_
          rw [HU2.out]
          rintro e w6 ⟨rfl, rfl⟩
          go_wp2_with fail
          refine (used_any p ro5 D2 _ HW.out.dk).mono ?_
          rw [HU2.out]
          rintro e w6 ⟨rfl, rfl⟩
          go_wp2_with fail
          refine (used_any p ro5 D2 _ HW.out.dk).mono ?_
          rw [HU2.out]
          rintro e w6 ⟨rfl, rfl⟩
          go_wp2_with fail
          refine (pend_any p ro5 D2 _ HW.out.dk).mono ?_
          rw [HP2.out]
          rintro e w7 ⟨rfl, hk7⟩
          have HW7 := hid (HW.out.all hk7)
          clear hk7
          go_wp2_with fail
          exact ⟨⟨j + 1, ro5, D2, by omega, by go_num, HW7.out, HKR2.out⟩, by simp [intOf]; omega⟩
      · have b0 : (x.kind == 0) = false := beq_eq_false_iff_ne.2 (by omega)
        have b1 : (x.kind == 1) = false := beq_eq_false_iff_ne.2 (by omega)
        have b2 : (x.kind == 2) = false := beq_eq_false_iff_ne.2 (by omega)
        have b3 : (x.kind == 3) = true := beq_iff_eq.2 hk
        clear hk
        go_wp2_with fail
        refine (used_any p ro D _ HW.out.dk).mono ?_
        rw [HU0.out]
        rintro e w3 ⟨rfl, rfl⟩
        go_wp2_with fail
        refine (pend_any p ro D _ HW.out.dk).mono ?_
        rw [HP0.out]
        rintro e w4 ⟨rfl, hk4⟩
        have HW4 := hid (HW.out.all hk4)
        have hbx4 := hk4.heap HBX.out trivial
        have HBX4 := hid hbx4
        have cbx4 := blk_cell hbx4
        have HDAT4 := hid (HDAT.out.step hk4.all)
        unfold a8cells at cbx4
        clear hk4 hbx4 cbx HW
        have HW := HW4
        clear HW4
        obtain ⟨ev, hev⟩ : ∃ ev, renErr D x.a x.b = ev := ⟨_, rfl⟩
        obtain ⟨D2, hD2⟩ : ∃ D2, renD D x.a x.b = D2 := ⟨_, rfl⟩
        have hfair := hKR.out.rename x.a x.b
        rw [hev, hD2] at hfair
        have HEV := hid hev; have HD2 := hid hD2; have HFAIR := hid hfair
        clear hev hD2 hfair
        go_wp2_with fail
        refine (rename_any p ro D HOK.out x.a x.b (by omega) w4 HW.out.dk).mono ?_
        rw [HEV.out, HD2.out]
        rintro e w5 ⟨rfl, hnx⟩
        (obtain ⟨ro5, hdw5⟩ := HW.out.next hnx; have HW5 := hid hdw5; clear hnx hdw5 HW; have HW := HW5; clear HW5)
        have HKR2 := hid HFAIR.out.kr
        obtain ⟨hus2, hnd2, hbn2, hpl2⟩ := HW.out.dk.us
        rw [HKR2.out.bl] at hus2
        obtain ⟨hu2, hp2⟩ := used_off HKR2.out.off
        have hsame := HFAIR.out.same
        rw [HU.out, HPD.out] at hsame
        obtain ⟨u2, hu2e⟩ : ∃ u2, usedOf D2.F D2.B = u2 := ⟨_, rfl⟩
        obtain ⟨pd2, hpd2e⟩ : ∃ pd2, pend D2.B = pd2 := ⟨_, rfl⟩
        replace hu2 := hu2.trans hu2e
        replace hp2 := hp2.trans hpd2e
        rw [hu2e] at hus2 hsame
        rw [hpd2e] at hsame hpl2
        have HU2 := hid hu2; have HP2 := hid hp2
        have z1 : ¬ (q : Int) < (u2 : Int) := by omega
        have z2 : ¬ (u2 : Int) < 0 := by omega
        by_cases hev0 : ev = 0
        · subst hev0
          clear hu2 hp2 hu2e hpd2e hsame hnd2 hbn2
          go_wp2_with fail
          refine (used_any p ro5 D2 _ HW.out.dk).mono ?_
          rw [HU2.out]
          rintro e w6 ⟨rfl, rfl⟩
          go_wp2_with fail
          refine (used_any p ro5 D2 _ HW.out.dk).mono ?_
          rw [HU2.out]
          rintro e w6 ⟨rfl, rfl⟩
          go_wp2_with fail
          exact ⟨⟨j + 1, ro5, D2, by omega, by go_num, HW.out, HKR2.out⟩, by simp [intOf]; omega⟩
        · obtain ⟨rfl, rfl⟩ := hsame hev0
          have be : (ev == 0) = false := beq_eq_false_iff_ne.2 hev0
          have bn : (ev != 0) = true := by rw [bne_iff_ne]; exact hev0
          clear hu2 hp2 hu2e hpd2e hsame hnd2 hbn2 hev0
          go_wp2_with fail
          refine (used_any p ro5 D2 _ HW.out.dk).mono ?_
          rw [HU2.out]
          rintro e w6 ⟨rfl, rfl⟩
          go_wp2_with fail
          refine (used_any p ro5 D2 _ HW.out.dk).mono ?_
          rw [HU2.out]
          rintro e w6 ⟨rfl, rfl⟩
          go_wp2_with fail
          refine (used_any p ro5 D2 _ HW.out.dk).mono ?_
          rw [HU2.out]
          rintro e w6 ⟨rfl, rfl⟩
          go_wp2_with fail
          refine (pend_any p ro5 D2 _ HW.out.dk).mono ?_
          rw [HP2.out]
          rintro e w7 ⟨rfl, hk7⟩
          have HW7 := hid (HW.out.all hk7)
          clear hk7
          go_wp2_with fail
          exact ⟨⟨j + 1, ro5, D2, by omega, by go_num, HW7.out, HKR2.out⟩, by simp [intOf]; omega⟩
      · have b0 : (x.kind == 0) = false := beq_eq_false_iff_ne.2 (by omega)
        have b1 : (x.kind == 1) = false := beq_eq_false_iff_ne.2 (by omega)
        have b2 : (x.kind == 2) = false := beq_eq_false_iff_ne.2 (by omega)
        have b3 : (x.kind == 3) = false := beq_eq_false_iff_ne.2 (by omega)
        have b4 : (x.kind == 4) = true := beq_iff_eq.2 hk
        clear hk
        go_wp2_with fail
        refine (used_any p ro D _ HW.out.dk).mono ?_
        rw [HU0.out]
        rintro e w3 ⟨rfl, rfl⟩
        go_wp2_with fail
        refine (pend_any p ro D _ HW.out.dk).mono ?_
        rw [HP0.out]
        rintro e w4 ⟨rfl, hk4⟩
        have HW4 := hid (HW.out.all hk4)
        have hbx4 := hk4.heap HBX.out trivial
        have HBX4 := hid hbx4
        have cbx4 := blk_cell hbx4
        have HDAT4 := hid (HDAT.out.step hk4.all)
        unfold a8cells at cbx4
        clear hk4 hbx4 cbx HW
        have HW := HW4
        clear HW4
        obtain ⟨ev, hev⟩ : ∃ ev, remErr D x.a = ev := ⟨_, rfl⟩
        obtain ⟨D2, hD2⟩ : ∃ D2, remD D x.a = D2 := ⟨_, rfl⟩
        have hfair := (hKR.out.remove HND.out x.a).1
        have hless := (hKR.out.remove HND.out x.a).2.1
        rw [hev, hD2, HU.out] at hless
        have HLESS := hid hless
        clear hless
        rw [hev, hD2] at hfair
        have HEV := hid hev; have HD2 := hid hD2; have HFAIR := hid hfair
        clear hev hD2 hfair
        go_wp2_with fail
        refine (remove_any p ro D HOK.out x.a w4 HW.out.dk).mono ?_
        rw [HEV.out, HD2.out]
        rintro e w5 ⟨rfl, hnx⟩
        (obtain ⟨ro5, hdw5⟩ := HW.out.next hnx; have HW5 := hid hdw5; clear hnx hdw5 HW; have HW := HW5; clear HW5)
        have HKR2 := hid HFAIR.out.kr
        obtain ⟨hus2, hnd2, hbn2, hpl2⟩ := HW.out.dk.us
        rw [HKR2.out.bl] at hus2
        obtain ⟨hu2, hp2⟩ := used_off HKR2.out.off
        have hsame := HFAIR.out.same
        rw [HU.out, HPD.out] at hsame
        obtain ⟨u2, hu2e⟩ : ∃ u2, usedOf D2.F D2.B = u2 := ⟨_, rfl⟩
        obtain ⟨pd2, hpd2e⟩ : ∃ pd2, pend D2.B = pd2 := ⟨_, rfl⟩
        replace hu2 := hu2.trans hu2e
        replace hp2 := hp2.trans hpd2e
        rw [hu2e] at hus2 hsame
        rw [hpd2e] at hsame hpl2
        have hless := HLESS.out
        rw [hu2e] at hless
        have HLESS2 := hid hless
        clear hless
        have HU2 := hid hu2; have HP2 := hid hp2
        have z1 : ¬ (q : Int) < (u2 : Int) := by omega
        have z2 : ¬ (u2 : Int) < 0 := by omega
        by_cases hev0 : ev = 0
        · subst hev0
          have z3 : (u2 : Int) < (u : Int) := by have := HLESS2.out rfl; omega
          clear hu2 hp2 hu2e hpd2e hsame hnd2 hbn2
          go_wp2_with fail
          refine (used_any p ro5 D2 _ HW.out.dk).mono ?_
          rw [HU2.out]
          rintro e w6 ⟨rfl, rfl⟩
          go_wp2_with fail
          refine (used_any p ro5 D2 _ HW.out.dk).mono ?_
          rw [HU2.out]
          rintro e w6 ⟨rfl, rfl⟩
          go_wp2_with fail
          refine (used_any p ro5 D2 _ HW.out.dk).mono ?_
          rw [HU2.out]
          rintro e w6 ⟨rfl, rfl⟩
          go_wp2_with fail
          exact ⟨⟨j + 1, ro5, D2, by omega, by go_num, HW.out, HKR2.out⟩, by simp [intOf]; omega⟩
        · obtain ⟨rfl, rfl⟩ := hsame hev0
          have be : (ev == 0) = false := beq_eq_false_iff_ne.2 hev0
          have bn : (ev != 0) = true := by rw [bne_iff_ne]; exact hev0
          clear hu2 hp2 hu2e hpd2e hsame hnd2 hbn2 hev0
          go_wp2_with fail
          refine (used_any p ro5 D2 _ HW.out.dk).mono ?_
          rw [HU2.out]
          rintro e w6 ⟨rfl, rfl⟩
          go_wp2_with fail
          refine (used_any p ro5 D2 _ HW.out.dk).mono ?_
          rw [HU2.out]
          rintro e w6 ⟨rfl, rfl⟩
          go_wp2_with fail
          refine (used_any p ro5 D2 _ HW.out.dk).mono ?_
          rw [HU2.out]
          rintro e w6 ⟨rfl, rfl⟩
          go_wp2_with fail
          refine (pend_any p ro5 D2 _ HW.out.dk).mono ?_
          rw [HP2.out]
          rintro e w7 ⟨rfl, hk7⟩
          have HW7 := hid (HW.out.all hk7)
          clear hk7
          go_wp2_with fail
          exact ⟨⟨j + 1, ro5, D2, by omega, by go_num, HW7.out, HKR2.out⟩, by simp [intOf]; omega⟩
      · have b0 : (x.kind == 0) = false := beq_eq_false_iff_ne.2 (by omega)
        have b1 : (x.kind == 1) = false := beq_eq_false_iff_ne.2 (by omega)
        have b2 : (x.kind == 2) = false := beq_eq_false_iff_ne.2 (by omega)
        have b3 : (x.kind == 3) = false := beq_eq_false_iff_ne.2 (by omega)
        have b4 : (x.kind == 4) = false := beq_eq_false_iff_ne.2 (by omega)
        clear hk
        go_wp2_with fail
        refine (used_any p ro D _ HW.out.dk).mono ?_
        rw [HU0.out]
        rintro e w3 ⟨rfl, rfl⟩
        go_wp2_with fail
        refine (pend_any p ro D _ HW.out.dk).mono ?_
        rw [HP0.out]
        rintro e w4 ⟨rfl, hk4⟩
        have HW4 := hid (HW.out.all hk4)
        have hbx4 := hk4.heap HBX.out trivial
        have HBX4 := hid hbx4
        have cbx4 := blk_cell hbx4
        have HDAT4 := hid (HDAT.out.step hk4.all)
        unfold a8cells at cbx4
        clear hk4 hbx4 cbx HW
        have HW := HW4
        clear HW4
        have HU2 := HU0; have HKR2 := hid hKR.out.more
        rw [hKR.out.bl] at hus
        have z1 : ¬ (q : Int) < (u : Int) := by omega
        have z2 : ¬ (u : Int) < 0 := by omega
        go_wp2_with fail
        refine (used_any p ro D _ HW.out.dk).mono ?_
        rw [HU2.out]
        rintro e w6 ⟨rfl, rfl⟩
        go_wp2_with fail
        refine (used_any p ro D _ HW.out.dk).mono ?_
        rw [HU2.out]
        rintro e w6 ⟨rfl, rfl⟩
        go_wp2_with fail
        exact ⟨⟨j + 1, ro, D, by omega, by go_num, HW.out, HKR2.out⟩, by simp [intOf]; omega⟩
    · have hb1 : decide ((j : Int) < (n : Int)) = false := decide_eq_false (by omega)
      have hj300 : j ≤ 300 := by
        have h1 := le_tot2 xs
        have h2 := hfew.out
        have h3 := HN.out
        omega
      obtain ⟨hus, hnd, hbn, hpl⟩ := HW.out.dk.us
      have hfl := files_le D.F D.B
      have hbl := hKR.out.bl
      have HND := hid hnd
      have hlist := list_any p ro D hKR.out.off (fun x hx => by have := good_size (hKR.out.good x hx); omega) (by omega) wr HW.out.dk
      have HLIST := hid hlist
      clear hnd hbn hlist hbl
      go_wp2_with fail
      refine HLIST.out.mono ?_
      rintro e w3 ⟨v, ks, rfl, hperm, _, hrow, hk3⟩
      obtain ⟨VK, vkc, rfl⟩ := own_shape hrow
      have hkl : ks.length ≤ 19 := by
        have h1 := hperm.length_eq
        rw [List.length_map] at h1
        have h2 := hKR.out.bl
        omega
      obtain ⟨m, hm⟩ : ∃ m, ks.length = m := ⟨_, rfl⟩
      have hrow' := hrow
      rw [hm] at hrow' hkl
      have hnk : ks.Nodup := hperm.symm.nodup_iff.1 HND.out |> fun h => by first | exact h | exact hperm.nodup_iff.2 HND.out
      have HM := hid hm; have HROW := hid hrow'; have HNK := hid hnk; have HPERM := hid hperm
      have HW3 := hid (HW.out.all hk3)
      have hrv : ∀ b, (Value.slice VK m vkc).ownBlock = some b → ro b = .none := fun b hb => by
        obtain ⟨_, _, _, _, hD'⟩ := HW.out.dk
        exact hD'.rnew b (hrow'.lt b hb).1
      have HRV := hid hrv
      rw [hm]
      clear hrow hrow' hm hnk hperm hk3 hrv
      go_wp2_with fail
      go_loopw [120] (fun ii w' => ∃ (i : Nat) (ro2 : Nat → Role) (D2 : DS), i ≤ m ∧ ii = .int .i64 i ∧ Hid (DW w w' p ro2 D2) ∧ Hid (KR q (j + i) D2) ∧ Hid (∀ s, s ∈ D2.F.map (·.1) ↔ s ∈ ks.drop i) ∧ Hid (w'.ownsRow 0 9 1 (.slice VK m vkc) m (ks.map Value.string) ∧ ∀ b, (Value.slice VK m vkc).ownBlock = some b → ro2 b = .none)) (fun ii _ => m - (intOf ii).toNat)
      case atStart => exact ⟨0, ro, D, Nat.zero_le _, rfl, HW3.out, hKR.out, fun s => by rw [List.drop_zero]; exact HPERM.out.mem_iff.symm, own00 HROW.out, HRV.out⟩
      case round =>
        obtain ⟨i, ro2, D2, hi, rfl, HW2, hKR2, hmem, hown⟩ := hrel
        by_cases him : i < m
        · have hb2 : decide ((i : Int) < (m : Int)) = true := decide_eq_true (by omega)
          have i0 : (0 : Int) ≤ (i : Int) := by omega
          have i1 : (i : Int) < (m : Int) := by omega
          obtain ⟨s, hs⟩ : ∃ s, ks[i]? = some s := ⟨_, List.getElem?_eq_getElem (by rw [HM.out]; exact him)⟩
          have hsl : Sl VK m vkc 1 (ks.map Value.string) wr := by
            have h2 := (own_sl hown.out.1 (Nat.le_refl m)).1
            rwa [List.take_of_length_le (by rw [List.length_map, HM.out]; exact Nat.le_refl _)] at h2
          obtain ⟨b2, o2, rfl, c2⟩ := sl_at hsl hs
          have hdrop : ks.drop i = s :: ks.drop (i + 1) := by
            have hil : i < ks.length := by rw [HM.out]; exact him
            rw [List.drop_eq_getElem_cons hil]
            have h1 := List.getElem?_eq_getElem hil
            rw [hs] at h1
            injection h1 with h1
            rw [← h1]
          have hsn : s ∉ ks.drop (i + 1) := by
            have h1 : (ks.drop i).Nodup := (List.drop_sublist i ks).nodup HNK.out
            rw [hdrop] at h1
            exact (List.nodup_cons.1 h1).1
          obtain ⟨t0, ht0⟩ := aget_of_mem ((hmem.out s).2 (by rw [hdrop]; exact List.mem_cons_self ..))
          obtain ⟨_, hnd2, _, _⟩ := HW2.out.dk.us
          obtain ⟨hfair, _, _, hrm⟩ := hKR2.out.remove hnd2 s
          obtain ⟨r1, r2, r3⟩ := hrm t0 ht0
          have hmem2 : ∀ t, t ∈ (remD D2 s).F.map (·.1) ↔ t ∈ ks.drop (i + 1) := by
            intro t
            rw [r2, mem_adel_keys, hmem.out t, hdrop, List.mem_cons]
            constructor
            · rintro ⟨h1 | h1, h2⟩
              · exact absurd h1 h2
              · exact h1
            · intro h1
              exact ⟨.inr h1, fun e => hsn (by rw [← e]; exact h1)⟩
          have HR1 := hid r1; have HMEM2 := hid hmem2; have HKR3 := hid hfair.kr
          have hok2 := hKR2.out.ok (by omega)
          have HOK2 := hid hok2
          clear hs hsl hdrop hsn ht0 hnd2 hfair hrm r1 r2 r3 hmem2 hok2
          go_wp2_with fail
          refine (remove_any p ro2 D2 HOK2.out s wr HW2.out.dk).mono ?_
          rw [HR1.out]
          rintro e w5 ⟨rfl, ro5, hd5, hr5, hk5⟩
          have hown5 : w5.ownsRow 0 9 1 (.slice (some ⟨b2, o2, none⟩) m vkc) m (ks.map Value.string) ∧ ∀ b, (Value.slice (some ⟨b2, o2, none⟩) m vkc).ownBlock = some b → ro5 b = .none :=
            ⟨own_kept hown.out.1 hk5 hown.out.2, fun b hb => hr5 b (hown.out.1.lt b hb).2 (hown.out.2 b hb)⟩
          obtain ⟨ro6, hdw6⟩ : ∃ ro6, ro6 = ro5 ∧ DW w w5 p ro6 (remD D2 s) := ⟨ro5, rfl, hd5, HW2.out.kp.then hk5 (fun i hi _ => HW2.out.rn i hi), fun b hb => hr5 b (Nat.lt_of_lt_of_le hb HW2.out.kp.size) (HW2.out.rn b hb)⟩
          have HOWN5 := hid hown5; have HDW6 := hid hdw6
          clear hd5 hr5 hk5 hown5 hdw6
          go_wp2_with fail
          exact ⟨⟨i + 1, ro6, _, by omega, by go_num, HDW6.out.2, by rw [← Nat.add_assoc]; exact HKR3.out, HMEM2.out, by rw [HDW6.out.1]; exact HOWN5.out⟩, by simp [intOf]; omega⟩
        · have hb2 : decide ((i : Int) < (m : Int)) = false := decide_eq_false (by omega)
          obtain rfl : i = m := by omega
          have hF : D2.F = [] := by
            cases hF : D2.F with
            | nil => rfl
            | cons y l =>
              have h1 := (hmem.out y.1).1 (by rw [hF]; simp)
              rw [List.drop_of_length_le (by rw [HM.out]; exact Nat.le_refl _)] at h1
              cases h1
          have hB : D2.B = [] := by
            obtain ⟨_, _, hbn2, _⟩ := HW2.out.dk.us
            cases hB : D2.B with
            | nil => rfl
            | cons y l =>
              have h1 := hbn2 y (by rw [hB]; exact List.mem_cons_self ..)
              rw [hF] at h1
              cases h1
          obtain ⟨hu2, hp2⟩ := used_off hKR2.out.off
          have e1 : usedOf D2.F D2.B = 0 := by rw [hF]; rfl
          have e2 : pend D2.B = 0 := by rw [hB]; rfl
          have HU2 := hid (hu2.trans e1); have HP2 := hid (hp2.trans e2)
          clear hF hB hu2 hp2 e1 e2
          go_wp2_with fail
          refine (used_any p ro2 D2 _ HW2.out.dk).mono ?_
          rw [HU2.out]
          rintro e w6 ⟨rfl, rfl⟩
          go_wp2_with fail
          refine (pend_any p ro2 D2 _ HW2.out.dk).mono ?_
          rw [HP2.out]
          rintro e w7 ⟨rfl, hk7⟩
          have HW7 := hid (HW2.out.all hk7)
          clear hk7
          go_wp2_with fail
          refine (lives_true _).mono ?_
          rintro e w8 ⟨rfl, hk⟩
          have HK := hid hk
          clear hk
          go_wp2_with fail
          go_ret
          exact ⟨rfl, HW7.out.kp.trans HK.out⟩
end Go.Proofs.Ytdlbccjimdghkaa
