/- The document's rises, GoodConf, GoodSnap: walked once each. No condition but that the rows lie. The document's Same of bytes, Ints, SameConf, SameSnap, and the law's great: walked once each. No condition but that the rows lie. The document's SameConf, SameSnap, and the law's great: walked once each. No condition but that the rows lie. -/
import Derived.Test.YtbkhademplgicaaGreatDoorM3
set_option linter.unusedVariables false
set_option linter.unusedSimpArgs false
namespace Go.Proofs.YtbkhademplgicaaGreatDoor
open Go.RowKit
set_option linter.unusedVariables false
set_option linter.unusedSimpArgs false
set_option maxRecDepth 100000 in
set_option maxHeartbeats 1000000 in
theorem rrises_any (A : Option Addr) (n c : Nat) (zs : List Int) (hn : zs.length = n) (hl : n ≤ 9000000000000000000) (w : World) (h : Sl A n c 1 (ivs zs) w) :
    Calls Tryz.prog 96 #[.slice A n c] w fun e w' => e = .returned (.bool (riseB zs)) ∧ w = w' := by
  have H := hid h; have HN := hid hn
  clear h hn
  go_enter Tryz.func96, Tryz.ntmps96
  go_wp2_with fail
  go_loop [7] (fun i => ∃ k : Nat, k ≤ n ∧ i = .int .i64 k ∧ Hid (riseB (zs.take k) = true)) (fun i => n - (intOf i).toNat)
  case atStart => exact ⟨0, Nat.zero_le _, rfl, hid (by simp [riseB])⟩
  case round =>
    obtain ⟨k, hk, rfl, hr⟩ := hrel
    by_cases hlt : k < n
    · have hb0 : decide ((k : Int) < (n : Int)) = true := decide_eq_true (by omega)
      obtain ⟨z, hz⟩ : ∃ z, zs[k]? = some z := ⟨_, List.getElem?_eq_getElem (by rw [HN.out]; exact hlt)⟩
      obtain ⟨b, o, rfl, hc⟩ := sl_int H.out hz
      have i0 : (0 : Int) ≤ (k : Int) := by omega
      have i1 : (k : Int) < (n : Int) := by omega
      have HZ := hid hz
      by_cases h1 : z < 1
      · have d1 : decide (z < 1) = true := decide_eq_true h1
        have HR := hid (rise_no1 hz (.inl h1))
        clear hz h1
        go_wp2_with fail
        go_ret
        exact ⟨by rw [HR.out]; rfl, rfl⟩
      have d1 : decide (z < 1) = false := decide_eq_false h1
      by_cases h9 : 9 < z
      · have d9 : decide (9 < z) = true := decide_eq_true h9
        have HR := hid (rise_no1 hz (.inr h9))
        clear hz h1 h9
        go_wp2_with fail
        go_ret
        exact ⟨by rw [HR.out]; rfl, rfl⟩
      have d9 : decide (9 < z) = false := decide_eq_false h9
      have H1 := hid (show 1 ≤ z by omega); have H9 := hid (show z ≤ 9 by omega)
      clear h1 h9 hz
      match k, hk, hlt, HZ, hc, hr with
      | 0, _, _, HZ, hc, hr =>
        have e0 : decide ((0 : Int) < ((0 : Nat) : Int)) = false := by decide
        rw [Nat.add_zero] at hc
        go_wp2_with fail
        exact ⟨⟨1, by omega, by go_num, hid (rise_ok HZ.out hr.out H1.out H9.out (fun j y e => by omega))⟩, by simp [intOf]; omega⟩
      | j + 1, hk, hlt, HZ, hc, hr =>
        obtain ⟨y, hy⟩ : ∃ y, zs[j]? = some y := ⟨_, List.getElem?_eq_getElem (by rw [HN.out]; omega)⟩
        obtain ⟨b', o', eA, hcy⟩ := sl_int H.out hy
        injection eA with eA; injection eA with e1 e2; subst e1 e2
        have e0 : decide ((0 : Int) < ((j + 1 : Nat) : Int)) = true := decide_eq_true (by omega)
        have HY := hid hy
        clear hy
        by_cases hyz : z ≤ y
        · have d2 : decide (z ≤ y) = true := decide_eq_true hyz
          have HR := hid (rise_no2 HZ.out HY.out hyz)
          clear hyz
          go_wp2_with fail
          go_ret
          exact ⟨by rw [HR.out]; rfl, rfl⟩
        · have d2 : decide (z ≤ y) = false := decide_eq_false hyz
          have HYZ := hid (show y < z by omega)
          clear hyz
          go_wp2_with fail
          exact ⟨⟨j + 2, by omega, by go_num, hid (rise_ok HZ.out hr.out H1.out H9.out (fun j' y' e hy' => by
            obtain rfl : j = j' := by omega
            rw [HY.out] at hy'; injection hy' with hy'; rw [← hy']; exact HYZ.out))⟩, by simp [intOf]; omega⟩
    · have hb0 : decide ((k : Int) < (n : Int)) = false := decide_eq_false (by omega)
      obtain rfl : k = n := by omega
      have hh := hr.out
      rw [List.take_of_length_le (by rw [HN.out]; exact Nat.le_refl _)] at hh
      go_wp2_with fail
      go_ret
      exact ⟨by first | rfl | rw [hh], rfl⟩
theorem rises_eq (A : Option Addr) (n c : Nat) (zs : List Int) (hn : zs.length = n) (hl : n ≤ 9000000000000000000) (w : World) (h : Sl A n c 1 (ivs zs) w) :
    Calls Tryz.prog 96 #[.slice A n c] w fun e w' => e = .returned (.bool (riseB zs)) ∧ w = w' := rrises_any A n c zs hn hl w h
set_option maxRecDepth 100000 in
set_option maxHeartbeats 1000000 in
theorem rgoodconf_any (VA LA : Option Addr) (vn vc ln lc : Nat) (V L : List Int) (hl8 : vn ≤ 9000000000000000000) (hl9 : ln ≤ 9000000000000000000) (w : World) (h : Cf VA LA vn vc ln lc V L w) :
    Calls Tryz.prog 52 #[.agg #[.slice VA vn vc, .slice LA ln lc]] w fun e w' => e = .returned (.bool (goodConf V L)) ∧ Kp All w w' := by
  have HK := hid (Kp.al w (.cells #[.slice VA vn vc, .slice LA ln lc] 24))
  have H := hid (h.step HK.out)
  have B7 := hid (blk_new w (.cells #[.slice VA vn vc, .slice LA ln lc] 24))
  obtain ⟨W, hW⟩ : ∃ W, W = w.alloc (.cells #[.slice VA vn vc, .slice LA ln lc] 24) := ⟨_, rfl⟩
  rw [← hW] at HK H B7
  have HW := hid hW
  have c7 := blk_cell B7.out
  have HVN := hid h.vn
  clear h hW
  have HRA := hid (rises_eq VA vn vc V HVN.out hl8 W H.out.v.now)
  have HRB := hid (rises_eq LA ln lc L H.out.ln hl9 W H.out.l.now)
  cases hrv : riseB V with
  | false =>
    rw [hrv] at HRA
    have HG := hid (show goodConf V L = false by rw [goodConf, hrv]; simp)
    clear hrv
    go_enter Tryz.func52, Tryz.ntmps52
    go_wp2_with fail
    rw [← HW.out]
    refine HRA.out.mono ?_
    rintro e w1 ⟨rfl, rfl⟩
    go_wp2_with fail
    go_ret
    rw [HG.out]
    exact ⟨rfl, HK.out⟩
  | true =>
  rw [hrv] at HRA
  have HRV := hid hrv
  clear hrv
  cases hrl : riseB L with
  | false =>
    rw [hrl] at HRB
    have HG := hid (show goodConf V L = false by rw [goodConf, hrl]; simp)
    clear hrl
    go_enter Tryz.func52, Tryz.ntmps52
    go_wp2_with fail
    rw [← HW.out]
    refine HRA.out.mono ?_
    rintro e w1 ⟨rfl, rfl⟩
    go_wp2_with fail
    refine HRB.out.mono ?_
    rintro e w1 ⟨rfl, rfl⟩
    go_wp2_with fail
    go_ret
    rw [HG.out]
    exact ⟨rfl, HK.out⟩
  | true =>
  rw [hrl] at HRB
  have HRL := hid hrl
  clear hrl
  by_cases h0 : vn = 0
  · have d0 : ((vn : Int) == 0) = true := by simp [h0]
    have HG := hid (show goodConf V L = false by rw [goodConf, decide_eq_false (by rw [HVN.out]; omega)]; rfl)
    clear h0
    go_enter Tryz.func52, Tryz.ntmps52
    go_wp2_with fail
    rw [← HW.out]
    refine HRA.out.mono ?_
    rintro e w1 ⟨rfl, rfl⟩
    go_wp2_with fail
    refine HRB.out.mono ?_
    rintro e w1 ⟨rfl, rfl⟩
    go_wp2_with fail
    go_ret
    rw [HG.out]
    exact ⟨rfl, HK.out⟩
  have d0 : ((vn : Int) == 0) = false := by simp [h0]
  have HG := hid (show goodConf V L = !(V.any fun n => hasI L n) by rw [goodConf, decide_eq_true (by rw [HVN.out]; omega), HRV.out, HRL.out]; rfl)
  rw [HG.out]
  clear h0
  go_enter Tryz.func52, Tryz.ntmps52
  go_wp2_with fail
  rw [← HW.out]
  refine HRA.out.mono ?_
  rintro e w1 ⟨rfl, rfl⟩
  go_wp2_with fail
  refine HRB.out.mono ?_
  rintro e w1 ⟨rfl, rfl⟩
  go_wp2_with fail
  go_loop [26] (fun i => ∃ k : Nat, k ≤ vn ∧ i = .int .i64 k ∧ Hid ((V.take k).any (fun n => hasI L n) = false)) (fun i => vn - (intOf i).toNat)
  case atStart => exact ⟨0, Nat.zero_le _, rfl, hid (by simp)⟩
  case round =>
    obtain ⟨k, hk, rfl, hr⟩ := hrel
    by_cases hlt : k < vn
    · have hb0 : decide ((k : Int) < (vn : Int)) = true := decide_eq_true (by omega)
      obtain ⟨z, hz⟩ : ∃ z, V[k]? = some z := ⟨_, List.getElem?_eq_getElem (by rw [HVN.out]; exact hlt)⟩
      obtain ⟨b, o, rfl, hc⟩ := sl_int H.out.v.now hz
      have i0 : (0 : Int) ≤ (k : Int) := by omega
      have i1 : (k : Int) < (vn : Int) := by omega
      have HZ := hid hz
      clear hz
      go_wp2_with fail
      go_loop [33] (fun i => ∃ j : Nat, j ≤ ln ∧ i = .int .i64 j ∧ Hid ((L.take j).any (fun n => z == n) = false)) (fun i => ln - (intOf i).toNat)
      case atStart => exact ⟨0, Nat.zero_le _, rfl, hid (by simp)⟩
      case round =>
        obtain ⟨j, hj, rfl, hr2⟩ := hrel
        by_cases hlt2 : j < ln
        · have hb1 : decide ((j : Int) < (ln : Int)) = true := decide_eq_true (by omega)
          obtain ⟨y, hy⟩ : ∃ y, L[j]? = some y := ⟨_, List.getElem?_eq_getElem (by rw [H.out.ln]; exact hlt2)⟩
          obtain ⟨b', o', rfl, hc'⟩ := sl_int H.out.l.now hy
          have j0 : (0 : Int) ≤ (j : Int) := by omega
          have j1 : (j : Int) < (ln : Int) := by omega
          have HY := hid hy
          clear hy
          by_cases he : z = y
          · have d1 : (z == y) = true := by simp [he]
            have HE := hid he
            clear he
            go_wp2_with fail
            go_ret
            refine ⟨?_, HK.out⟩
            have : (V.any fun n => hasI L n) = true := List.any_eq_true.2 ⟨z, List.mem_of_getElem? HZ.out, by
              rw [hasI, List.contains_eq_any_beq, List.any_eq_true]
              exact ⟨y, List.mem_of_getElem? HY.out, by simp [HE.out]⟩⟩
            rw [this]; rfl
          · have d1 : (z == y) = false := by simp [he]
            have HE := hid he
            clear he
            go_wp2_with fail
            exact ⟨⟨j + 1, by omega, by go_num, hid (any_take HY.out hr2.out (by simp [HE.out]))⟩, by simp [intOf]; omega⟩
        · have hb1 : decide ((j : Int) < (ln : Int)) = false := decide_eq_false (by omega)
          obtain rfl : j = ln := by omega
          have hh := hr2.out
          rw [List.take_of_length_le (by rw [H.out.ln]; exact Nat.le_refl _)] at hh
          have HH := hid hh
          clear hh
          go_wp2_with fail
          refine ⟨⟨k + 1, by omega, by go_num, hid (any_take HZ.out hr.out ?_)⟩, by simp [intOf]; omega⟩
          rw [hasI, List.contains_eq_any_beq]
          exact HH.out
    · have hb0 : decide ((k : Int) < (vn : Int)) = false := decide_eq_false (by omega)
      obtain rfl : k = vn := by omega
      have hh := hr.out
      rw [List.take_of_length_le (by rw [HVN.out]; exact Nat.le_refl _)] at hh
      have HH := hid hh
      clear hh
      go_wp2_with fail
      go_ret
      rw [HH.out]
      exact ⟨rfl, HK.out⟩
set_option maxRecDepth 100000 in
set_option maxHeartbeats 1000000 in
theorem rgoodsnap_any (x : Sn) (VA LA DA : Option Addr) (vn vc ln lc dn dc : Nat) (hl8 : vn ≤ 9000000000000000000) (hl9 : ln ≤ 9000000000000000000) (w : World) (hs : Snp x VA LA DA vn vc ln lc dn dc w) :
    Calls Tryz.prog 19 #[.agg #[.int .i64 x.index, .int .i64 x.term, .slice VA vn vc, .slice LA ln lc, .slice DA dn dc]] w fun e w' => e = .returned (.bool (goodSnap x)) ∧ Kp All w w' := by
  have HS := hid (hs.step (Kp.al w (Obj.cells #[.int .i64 x.index, .int .i64 x.term, .slice VA vn vc, .slice LA ln lc, .slice DA dn dc] 27)))
  have B7 := hid (blk_new w (Obj.cells #[.int .i64 x.index, .int .i64 x.term, .slice VA vn vc, .slice LA ln lc, .slice DA dn dc] 27))
  have c7 := blk_cell B7.out
  have HDN := hid hs.dn
  clear hs
  by_cases h1 : 0 < x.index
  case neg =>
    have d1 : decide (1 ≤ x.index) = false := decide_eq_false (by omega)
    have HG := hid (show goodSnap x = false by rw [goodSnap, decide_eq_false h1]; rfl)
    go_enter Tryz.func19, Tryz.ntmps19
    go_wp2_with fail
    go_ret
    rw [HG.out]
    exact ⟨rfl, Kp.al _ _⟩
  have d1 : decide (1 ≤ x.index) = true := decide_eq_true (by omega)
  have d1' : decide (0 < x.index) = true := decide_eq_true h1
  by_cases h2 : 0 < x.term
  case neg =>
    have d2 : decide (1 ≤ x.term) = false := decide_eq_false (by omega)
    have HG := hid (show goodSnap x = false by rw [goodSnap, d1', decide_eq_false h2]; rfl)
    go_enter Tryz.func19, Tryz.ntmps19
    go_wp2_with fail
    go_ret
    rw [HG.out]
    exact ⟨rfl, Kp.al _ _⟩
  have d2 : decide (1 ≤ x.term) = true := decide_eq_true (by omega)
  have d2' : decide (0 < x.term) = true := decide_eq_true h2
  have HG := hid (show goodSnap x = (goodConf x.V x.L && decide (dn ≤ 1048576)) by rw [goodSnap, d1', d2', HDN.out]; rfl)
  go_enter Tryz.func19, Tryz.ntmps19
  go_wp2_with fail
  refine (rgoodconf_any VA LA vn vc ln lc x.V x.L hl8 hl9 _ HS.out.cf).mono ?_
  rintro e w1 ⟨rfl, hk1⟩
  have c8 := blk_cell (hk1.heap B7.out trivial)
  have HK1 := hid ((Kp.al w _).trans hk1)
  clear hk1
  cases hgc : goodConf x.V x.L with
  | false =>
    have HC := hid hgc
    clear hgc
    go_wp2_with fail
    go_ret
    rw [HG.out, HC.out]
    exact ⟨rfl, HK1.out⟩
  | true =>
    have HC := hid hgc
    clear hgc
    by_cases h3 : dn ≤ 1048576
    · have d3 : decide ((dn : Int) ≤ 1048576) = true := decide_eq_true (by omega)
      go_wp2_with fail
      go_ret
      rw [HG.out, HC.out, decide_eq_true h3]
      exact ⟨rfl, HK1.out⟩
    · have d3 : decide ((dn : Int) ≤ 1048576) = false := decide_eq_false (by omega)
      go_wp2_with fail
      go_ret
      rw [HG.out, HC.out, decide_eq_false h3]
      exact ⟨rfl, HK1.out⟩
end Go.Proofs.YtbkhademplgicaaGreatDoor

namespace Go.Proofs.YtbkhademplgicaaGreatDoor
open Go.RowKit
set_option linter.unusedVariables false
set_option linter.unusedSimpArgs false
theorem foot_rb {A : Option Addr} {n c : Nat} {xs : By} {w : World} (hn : xs.length = n) (h : Sl A n c 1 (u8s xs) w) : Rb (.slice A n c) xs w := ⟨A, c, by rw [hn], by rw [hn]; exact h⟩
theorem bs_ne2 {s t : ByteArray} (h : s ≠ t) : ¬ s.toList = t.toList := fun e => h (by
  rw [ByteArray.toList_eq, ByteArray.toList_eq] at e
  cases s; cases t
  simp only [Array.toList_inj] at e
  subst e; rfl)
set_option maxRecDepth 100000 in
theorem rsame_any (A B : Option Addr) (n c m d : Nat) (xs ys : By) (hx : xs.length = n) (hy : ys.length = m) (w : World) (h1 : Sl A n c 1 (u8s xs) w) (h2 : Sl B m d 1 (u8s ys) w) :
    Calls Tryz.prog 11 #[.slice A n c, .slice B m d] w fun e w' => e = .returned (.bool (decide (xs = ys))) ∧ w = w' := by
  have e1 := run_conv_row (foot_rb hx h1)
  have e2 := run_conv_row (foot_rb hy h2)
  clear h1 h2
  by_cases he : xs = ys
  · have hd : decide (xs = ys) = true := decide_eq_true he
    rw [hd]
    subst he
    clear hd
    go_enter Tryz.func11, Tryz.ntmps11
    go_wp2_with fail
    go_ret
    exact ⟨by simp, rfl⟩
  · have hd : decide (xs = ys) = false := decide_eq_false he
    have n2 : (xs == ys) = false := beq_eq_false_iff_ne.2 he
    rw [hd]
    clear hd he
    go_enter Tryz.func11, Tryz.ntmps11
    go_wp2_with fail
    go_ret
    exact ⟨rfl, rfl⟩
set_option maxRecDepth 100000 in
set_option maxHeartbeats 1000000 in
theorem rints_any (A B : Option Addr) (n c m d : Nat) (xs ys : List Int) (hx : xs.length = n) (hy : ys.length = m) (hl : n ≤ 9000000000000000000) (w : World) (h1 : Foot All (Sl A n c 1 (ivs xs)) w) (h2 : Foot All (Sl B m d 1 (ivs ys)) w) :
    Calls Tryz.prog 94 #[.slice A n c, .slice B m d] w fun e w' => e = .returned (.bool (decide (xs = ys))) ∧ Kp All w w' := by
  have H1 := hid h1; have H2 := hid h2; have HX := hid hx; have HY := hid hy
  clear h1 h2 hx hy
  by_cases hnm : n = m
  case neg =>
    have d1 : ((n : Int) != (m : Int)) = true := by simp; omega
    have d2 : ((n : Int) == (m : Int)) = false := by simp; omega
    have hd : decide (xs = ys) = false := decide_eq_false fun e => hnm (by rw [← HX.out, ← HY.out, e])
    rw [hd]
    clear hd hnm
    go_enter Tryz.func94, Tryz.ntmps94
    go_wp2_with fail
    go_ret
    exact ⟨rfl, Kp.refl _ _⟩
  subst hnm
  obtain ⟨r, hr⟩ : ∃ r, decide (xs = ys) = r := ⟨_, rfl⟩
  have HR := hid hr
  rw [hr]
  clear hr
  have d1 : ((n : Int) != (n : Int)) = false := by simp
  go_enter Tryz.func94, Tryz.ntmps94
  go_wp2_with fail
  go_loopw [13] (fun i wr => ∃ k : Nat, k ≤ n ∧ i = .int .i64 k ∧ Hid (xs.take k = ys.take k) ∧ Hid (Kp All w wr)) (fun i _ => n - (intOf i).toNat)
  case atStart => exact ⟨0, Nat.zero_le _, rfl, hid (by simp), hid (Kp.refl _ _)⟩
  case round =>
    obtain ⟨k, hk, rfl, heq, hkp⟩ := hrel
    by_cases hlt : k < n
    · have hb0 : decide ((k : Int) < (n : Int)) = true := decide_eq_true (by omega)
      obtain ⟨z, hz⟩ : ∃ z, xs[k]? = some z := ⟨_, List.getElem?_eq_getElem (by rw [HX.out]; exact hlt)⟩
      obtain ⟨y, hy⟩ : ∃ y, ys[k]? = some y := ⟨_, List.getElem?_eq_getElem (by rw [HY.out]; exact hlt)⟩
      obtain ⟨b, o, rfl, p1⟩ := sl_int (H1.out wr hkp.out) hz
      obtain ⟨b', o', rfl, p2⟩ := sl_int (H2.out wr hkp.out) hy
      have HZ := hid hz; have HYY := hid hy
      have i0 : (0 : Int) ≤ (k : Int) := by omega
      have i1 : (k : Int) < (n : Int) := by omega
      clear hz hy
      by_cases he : z = y
      · subst he
        have d2 : (z != z) = false := by simp
        go_wp2_with fail
        go_quiet (fail)
        go_wp2_with fail
        refine ⟨⟨k + 1, by omega, by go_num, hid ?_, hid (hkp.out.drewN _)⟩, by simp [intOf]; omega⟩
        rw [List.take_add_one, List.take_add_one, HZ.out, HYY.out, heq.out]
      · have d2 : (z != y) = true := by simpa using he
        have d3 : (z == y) = false := by simpa using he
        have HE := hid he
        clear he
        go_wp2_with fail
        go_quiet (fail)
        go_wp2_with fail
        go_ret
        refine ⟨?_, hkp.out.drewN _⟩
        have : r = false := by
          rw [← HR.out]
          refine decide_eq_false fun e => HE.out ?_
          have h1 := HZ.out
          rw [e, HYY.out] at h1
          injection h1 with h1
          exact h1.symm
        rw [this]; rfl
    · have hb0 : decide ((k : Int) < (n : Int)) = false := decide_eq_false (by omega)
      obtain rfl : k = n := by omega
      have : r = true := by
        rw [← HR.out]
        have h1 := heq.out
        rw [List.take_of_length_le (by rw [HX.out]; exact Nat.le_refl _), List.take_of_length_le (by rw [HY.out]; exact Nat.le_refl _)] at h1
        exact decide_eq_true h1
      have HT := hid this
      clear this
      go_wp2_with fail
      go_ret
      exact ⟨by rw [HT.out]; rfl, hkp.out⟩
end Go.Proofs.YtbkhademplgicaaGreatDoor

namespace Go.Proofs.YtbkhademplgicaaGreatDoor
open Go.RowKit
set_option linter.unusedVariables false
set_option linter.unusedSimpArgs false
set_option maxRecDepth 100000 in
set_option maxHeartbeats 1000000 in
theorem rsameconf_any (VA LA VB LB : Option Addr) (vn vc ln lc vm vd lm ld : Nat) (V L V' L' : List Int) (hl : vn ≤ 9000000000000000000 ∧ ln ≤ 9000000000000000000) (w : World) (h : Cf VA LA vn vc ln lc V L w) (h' : Cf VB LB vm vd lm ld V' L' w) :
    Calls Tryz.prog 49 #[.agg #[.slice VA vn vc, .slice LA ln lc], .agg #[.slice VB vm vd, .slice LB lm ld]] w fun e w' => e = .returned (.bool (decide (V = V') && decide (L = L'))) ∧ Kp All w w' := by
  have HL := hid hl
  obtain ⟨W, hW⟩ : ∃ W, W = (w.alloc (.cells #[.slice VA vn vc, .slice LA ln lc] 24)).alloc (.cells #[.slice VB vm vd, .slice LB lm ld] 24) := ⟨_, rfl⟩
  have hk : Kp All w W := by rw [hW]; exact (Kp.al _ _).alloc _
  have b1 : W.heap[w.heap.size]? = some (.cells #[.slice VA vn vc, .slice LA ln lc] 24 (0, 0)) := by rw [hW]; exact blk_alloc (blk_new w _) _
  have b2 : W.heap[w.heap.size + 1]? = some (.cells #[.slice VB vm vd, .slice LB lm ld] 24 (0, 0)) := by
    rw [hW]
    have := blk_new (w.alloc (.cells #[.slice VA vn vc, .slice LA ln lc] 24)) (.cells #[.slice VB vm vd, .slice LB lm ld] 24)
    rwa [World.size_alloc] at this
  have HW := hid hW; have HK := hid hk; have H1 := hid (h.step hk); have H2 := hid (h'.step hk); have B1 := hid b1; have B2 := hid b2
  have c1 := blk_cell b1; have c2 := blk_cell b2
  have R1 := hid (rints_any VA VB vn vc vm vd V V' h.vn h'.vn hl.1 W (h.step hk).v (h'.step hk).v)
  have R2 := hid (fun w' (k : Kp All W w') => rints_any LA LB ln lc lm ld L L' h.ln h'.ln hl.2 w' ((h.step hk).l.step k) ((h'.step hk).l.step k))
  clear hW hk h h' b1 b2 hl
  cases hv : decide (V = V') with
  | false =>
    rw [hv] at R1
    clear hv
    go_enter Tryz.func49, Tryz.ntmps49
    go_wp2_with fail
    rw [← HW.out]
    refine R1.out.mono ?_
    rintro e w1 ⟨rfl, hk1⟩
    have HK1 := hid (HK.out.trans hk1)
    clear hk1
    go_wp2_with fail
    go_ret
    exact ⟨rfl, HK1.out⟩
  | true =>
    rw [hv] at R1
    clear hv
    go_enter Tryz.func49, Tryz.ntmps49
    go_wp2_with fail
    rw [← HW.out]
    refine R1.out.mono ?_
    rintro e w1 ⟨rfl, hk1⟩
    have HK1 := hid (HK.out.trans hk1)
    have d1 := blk_cell (hk1.heap B1.out trivial); have d2 := blk_cell (hk1.heap B2.out trivial)
    have R3 := hid (R2.out w1 hk1)
    clear hk1
    go_wp2_with fail
    refine R3.out.mono ?_
    rintro e w2 ⟨rfl, hk2⟩
    have HK2 := hid (HK1.out.trans hk2)
    clear hk2
    go_wp2_with fail
    go_ret
    exact ⟨rfl, HK2.out⟩
def sameB (x y : Sn) : Bool := decide (x.index = y.index) && (decide (x.term = y.term) && ((decide (x.V = y.V) && decide (x.L = y.L)) && decide (x.data = y.data)))
theorem sameB_refl (x : Sn) : sameB x x = true := by simp [sameB]
theorem sameB_eq {x y : Sn} (h : sameB x y = true) : x = y := by
  cases x; cases y
  simp [sameB] at h
  simp [h]
set_option maxRecDepth 100000 in
set_option maxHeartbeats 1000000 in
theorem rsamesnap_any (x y : Sn) (VA LA DA VB LB DB : Option Addr) (vn vc ln lc dn dc vm vd lm ld dm dd : Nat) (hl : vn ≤ 9000000000000000000 ∧ ln ≤ 9000000000000000000) (w : World) (hs : Snp x VA LA DA vn vc ln lc dn dc w) (hs' : Snp y VB LB DB vm vd lm ld dm dd w) :
    Calls Tryz.prog 16 #[.agg #[.int .i64 x.index, .int .i64 x.term, .slice VA vn vc, .slice LA ln lc, .slice DA dn dc], .agg #[.int .i64 y.index, .int .i64 y.term, .slice VB vm vd, .slice LB lm ld, .slice DB dm dd]] w fun e w' => e = .returned (.bool (sameB x y)) ∧ Kp All w w' := by
  obtain ⟨W, hW⟩ : ∃ W, W = (w.alloc (.cells #[.int .i64 x.index, .int .i64 x.term, .slice VA vn vc, .slice LA ln lc, .slice DA dn dc] 27)).alloc (.cells #[.int .i64 y.index, .int .i64 y.term, .slice VB vm vd, .slice LB lm ld, .slice DB dm dd] 27) := ⟨_, rfl⟩
  have hk : Kp All w W := by rw [hW]; exact (Kp.al _ _).alloc _
  have b1 : W.heap[w.heap.size]? = some (.cells #[.int .i64 x.index, .int .i64 x.term, .slice VA vn vc, .slice LA ln lc, .slice DA dn dc] 27 (0, 0)) := by rw [hW]; exact blk_alloc (blk_new w _) _
  have b2 : W.heap[w.heap.size + 1]? = some (.cells #[.int .i64 y.index, .int .i64 y.term, .slice VB vm vd, .slice LB lm ld, .slice DB dm dd] 27 (0, 0)) := by
    rw [hW]
    have := blk_new (w.alloc (.cells #[.int .i64 x.index, .int .i64 x.term, .slice VA vn vc, .slice LA ln lc, .slice DA dn dc] 27)) (.cells #[.int .i64 y.index, .int .i64 y.term, .slice VB vm vd, .slice LB lm ld, .slice DB dm dd] 27)
    rwa [World.size_alloc] at this
  have HW := hid hW; have HK := hid hk; have B1 := hid b1; have B2 := hid b2
  have c1 := blk_cell b1; have c2 := blk_cell b2
  have R1 := hid (rsameconf_any VA LA VB LB vn vc ln lc vm vd lm ld x.V x.L y.V y.L hl W (hs.step hk).cf (hs'.step hk).cf)
  have R2 := hid (fun w' (k : Kp All W w') => rsame_any DA DB dn dc dm dd x.data y.data hs.dn hs'.dn w' ((hs.step hk).d.step k).now ((hs'.step hk).d.step k).now)
  clear hW hk hs hs' b1 b2 hl
  by_cases h1 : x.index = y.index
  case neg =>
    have d1 : (x.index == y.index) = false := by simpa using h1
    have e1 : sameB x y = false := by simp [sameB, h1]
    rw [e1]
    clear e1 h1
    go_enter Tryz.func16, Tryz.ntmps16
    go_wp2_with fail
    go_ret
    exact ⟨rfl, by first | exact HK.out | (rw [← HW.out]; exact HK.out)⟩
  have d1 : (x.index == y.index) = true := by simp [h1]
  by_cases h2 : x.term = y.term
  case neg =>
    have d2 : (x.term == y.term) = false := by simpa using h2
    have e1 : sameB x y = false := by simp [sameB, h2]
    rw [e1]
    clear e1 h1 h2
    go_enter Tryz.func16, Tryz.ntmps16
    go_wp2_with fail
    go_ret
    exact ⟨rfl, by first | exact HK.out | (rw [← HW.out]; exact HK.out)⟩
  have d2 : (x.term == y.term) = true := by simp [h2]
  have E1 := hid (show sameB x y = ((decide (x.V = y.V) && decide (x.L = y.L)) && decide (x.data = y.data)) by simp [sameB, h1, h2])
  obtain ⟨cb, hcb⟩ : ∃ cb, (decide (x.V = y.V) && decide (x.L = y.L)) = cb := ⟨_, rfl⟩
  rw [hcb] at E1 R1
  rw [E1.out]
  clear hcb h1 h2
  cases cb with
  | false =>
    go_enter Tryz.func16, Tryz.ntmps16
    go_wp2_with fail
    rw [← HW.out]
    refine R1.out.mono ?_
    rintro e w1 ⟨rfl, hk1⟩
    have HK1 := hid (HK.out.trans hk1)
    clear hk1
    go_wp2_with fail
    go_ret
    exact ⟨rfl, HK1.out⟩
  | true =>
    go_enter Tryz.func16, Tryz.ntmps16
    go_wp2_with fail
    rw [← HW.out]
    refine R1.out.mono ?_
    rintro e w1 ⟨rfl, hk1⟩
    have HK1 := hid (HK.out.trans hk1)
    have e1 := blk_cell (hk1.heap B1.out trivial); have e2 := blk_cell (hk1.heap B2.out trivial)
    have R3 := hid (R2.out w1 hk1)
    clear hk1
    go_wp2_with fail
    refine R3.out.mono ?_
    rintro e w2 ⟨rfl, rfl⟩
    go_wp2_with fail
    go_ret
    exact ⟨by simp, HK1.out⟩
def greatB (vn ln dn : Nat) : Bool := decide (20000 < dn) || decide (100 < vn + ln)
set_option maxRecDepth 100000 in
theorem great_any (i t : Int) (VA LA DA : Option Addr) (vn vc ln lc dn dc : Nat) (hl : vn ≤ 1000000000000000 ∧ ln ≤ 1000000000000000) (w : World) :
    Calls Tryz.prog 7 #[.agg #[.int .i64 i, .int .i64 t, .slice VA vn vc, .slice LA ln lc, .slice DA dn dc]] w fun e w' => e = .returned (.bool (greatB vn ln dn)) ∧ Kp All w w' := by
  have b1 := blk_new w (.cells #[.int .i64 i, .int .i64 t, .slice VA vn vc, .slice LA ln lc, .slice DA dn dc] 27)
  have c1 := blk_cell b1
  have HK := hid (Kp.al w (.cells #[.int .i64 i, .int .i64 t, .slice VA vn vc, .slice LA ln lc, .slice DA dn dc] 27))
  clear b1
  have hw : IntKind.i64.wrap ((vn : Int) + (ln : Int)) = (vn : Int) + (ln : Int) := IntWalk.i64_in _ (by omega)
  by_cases h1 : 20000 < dn
  · have d1 : decide (20000 < (dn : Int)) = true := decide_eq_true (by omega)
    have e1 : greatB vn ln dn = true := by simp [greatB, h1]
    rw [e1]
    go_enter Tryz.func7, Tryz.ntmps7
    go_wp2_with fail
    go_ret
    exact ⟨rfl, HK.out⟩
  have d1 : decide (20000 < (dn : Int)) = false := decide_eq_false (by omega)
  by_cases h2 : 100 < vn + ln
  · have d2 : decide (100 < (vn : Int) + (ln : Int)) = true := decide_eq_true (by omega)
    have e1 : greatB vn ln dn = true := by simp [greatB, h2]
    rw [e1]
    go_enter Tryz.func7, Tryz.ntmps7
    go_wp2_with fail
    go_ret
    exact ⟨rfl, HK.out⟩
  · have d2 : decide (100 < (vn : Int) + (ln : Int)) = false := decide_eq_false (by omega)
    have e1 : greatB vn ln dn = false := by simp [greatB]; omega
    rw [e1]
    go_enter Tryz.func7, Tryz.ntmps7
    go_wp2_with fail
    go_ret
    exact ⟨rfl, HK.out⟩
end Go.Proofs.YtbkhademplgicaaGreatDoor
