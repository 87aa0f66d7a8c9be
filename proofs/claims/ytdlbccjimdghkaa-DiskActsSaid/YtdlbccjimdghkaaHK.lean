/- The document's disk in memory: Remove, Read, Sync: walked once each. No condition but that it lies as RD says, and is good. -/
import Derived.Test.YtdlbccjimdghkaaHJ
namespace Go.Proofs.Ytdlbccjimdghkaa
open Go.RowKit
set_option linter.unusedVariables false
set_option linter.unusedSimpArgs false
set_option maxRecDepth 100000 in
set_option maxHeartbeats 4000000 in
theorem qrem_any (Z : Nat → Prop) (p : Nat) (R : DS) (n : Nm) (w : World) (h : RD Z p R w) (hg : GO R) :
    Calls Try.prog 54 #[.pointer (some ⟨p, 0, none⟩), .string n] w fun e w' => e = .returned (.int .i64 (remErr R n)) ∧ Rx Z p (remD R n) w w' := by
  have H := hid h; have HG := hid hg
  obtain ⟨lv, bv, LV, BV, h0⟩ := h
  have c0 := blk_cell h0.cell
  unfold rcs at c0
  obtain ⟨fo, hfo⟩ : ∃ fo, R.off = fo := ⟨_, rfl⟩
  have HFO := hid hfo
  rw [hfo] at c0
  clear hg h0 hfo
  cases fo with
  | true =>
    have HE := hid (show remErr R n = 9 ∧ remD R n = R by rw [remErr, remD, HFO.out]; exact ⟨rfl, rfl⟩)
    go_enter Try.func54, Try.ntmps54
    go_wp2_with fail
    go_ret
    rw [HE.out.1, HE.out.2]
    exact ⟨rfl, Rx.refl H.out (Kp.refl _ _)⟩
  | false =>
    obtain ⟨og, hog⟩ : ∃ og, aget R.F n = og := ⟨_, rfl⟩
    have HOG := hid hog
    clear hog
    cases og with
    | none =>
      have HKF := hid (findN_none' HOG.out)
      have d1 : decide ((-1 : Int) < 0) = true := by decide
      have HE := hid (show remErr R n = 4 ∧ remD R n = R by rw [remErr, remD, HFO.out, HOG.out]; exact ⟨rfl, rfl⟩)
      go_enter Try.func54, Try.ntmps54
      go_wp2_with fail
      refine (qfind_any Z p R n _ H.out HG.out.f).mono ?_
      rintro e w1 ⟨rfl, hk1⟩
      rw [HKF.out]
      have HK1 := hid hk1
      clear hk1
      go_wp2_with fail
      go_ret
      rw [HE.out.1, HE.out.2]
      exact ⟨rfl, Rx.refl H.out HK1.out⟩
    | some s =>
      obtain ⟨k, hk1, hk2⟩ := findN_some HG.out.nd HOG.out
      have HKF := hid hk1; have HKA := hid hk2
      have d1 : decide ((k : Int) < 0) = false := decide_eq_false (by omega)
      clear hk1 hk2
      obtain ⟨ff, hff⟩ : ∃ ff, R.fit = ff := ⟨_, rfl⟩
      have HFF := hid hff
      clear hff
      cases ff with
      | false =>
        have HE := hid (show remErr R n = 9 ∧ remD R n = R.begun by rw [remErr, remD, HFO.out, HOG.out, HFF.out]; exact ⟨rfl, rfl⟩)
        go_enter Try.func54, Try.ntmps54
        go_wp2_with fail
        refine (qfind_any Z p R n _ H.out HG.out.f).mono ?_
        rintro e w1 ⟨rfl, hk1⟩
        rw [HKF.out]
        have HK1 := hid hk1
        clear hk1
        go_wp2_with fail
        refine (qbegin_any Z p R HG.out.o0 HG.out.o1 HG.out.f1 HG.out.k1 _ (H.out.all HK1.out) HG.out.toGd).mono ?_
        rintro e w2 ⟨rfl, hx⟩
        rw [HFF.out]
        have HX := hid hx
        clear hx c0
        go_wp2_with fail
        go_ret
        rw [HE.out.1, HE.out.2]
        exact ⟨rfl, Rx.pre HK1.out HX.out⟩
      | true =>
        obtain ⟨eF, eB, ebl, eo⟩ := begun_fit HFF.out
        have HGB := hid (HG.out.toGd.same eF eB)
        obtain ⟨R1, hR1⟩ : ∃ R1, R.begun = R1 := ⟨_, rfl⟩
        have HE := hid (show remErr R n = 0 ∧ remD R n = R1.gone n by rw [remErr, remD, HFO.out, HOG.out, HFF.out, hR1]; exact ⟨rfl, rfl⟩)
        rw [hR1] at HGB eF
        have HEF := hid eF
        have HR1 := hid hR1
        clear hR1 eF eB ebl eo
        go_enter Try.func54, Try.ntmps54
        go_wp2_with fail
        refine (qfind_any Z p R n _ H.out HG.out.f).mono ?_
        rintro e w1 ⟨rfl, hk1⟩
        rw [HKF.out]
        have HK1 := hid hk1
        clear hk1
        go_wp2_with fail
        refine (qbegin_any Z p R HG.out.o0 HG.out.o1 HG.out.f1 HG.out.k1 _ (H.out.all HK1.out) HG.out.toGd).mono ?_
        rintro e w2 ⟨rfl, Z1, hd1, hz1, hk1⟩
        rw [HFF.out]
        rw [HR1.out] at hd1
        have HD1 := hid hd1; have HZ1 := hid hz1; have HK2 := hid hk1
        clear hd1 hz1 hk1 c0
        go_wp2_with fail
        refine (qfind_any Z1 p R1 n _ HD1.out HGB.out.f).mono ?_
        rintro e w3 ⟨rfl, hk3⟩
        rw [HEF.out, HKF.out]
        have HK3 := hid hk3
        clear hk3
        go_wp2_with fail
        refine (qgone_any Z1 p R1 k n s _ (HD1.out.all HK3.out) HGB.out (by rw [HEF.out]; exact HKA.out)).mono ?_
        rintro e w4 ⟨rfl, hx4⟩
        have HX4 := hid hx4
        clear hx4
        go_wp2_with fail
        go_ret
        rw [HE.out.1, HE.out.2]
        exact ⟨rfl, Rx.pre HK1.out (Rx.trans ⟨Z1, HZ1.out, HK2.out, Rx.pre HK3.out HX4.out⟩)⟩
set_option maxRecDepth 100000 in
set_option maxHeartbeats 4000000 in
theorem qread_any (Z : Nat → Prop) (p : Nat) (R : DS) (n : Nm) (w : World) (h : RD Z p R w) (hg : Gd R) :
    Calls Try.prog 55 #[.pointer (some ⟨p, 0, none⟩), .string n] w (Read w (readB R n) (readErr R n)) := by
  have H := hid h; have HG := hid hg
  obtain ⟨lv, bv, LV, BV, h0⟩ := h
  have c0 := blk_cell h0.cell
  unfold rcs at c0
  obtain ⟨fo, hfo⟩ : ∃ fo, R.off = fo := ⟨_, rfl⟩
  have HFO := hid hfo
  rw [hfo] at c0
  clear hg h0 hfo
  cases fo with
  | true =>
    have HE := hid (show readErr R n = 9 ∧ readB R n = [] by rw [readErr, readB, HFO.out]; exact ⟨rfl, rfl⟩)
    go_enter Try.func55, Try.ntmps55
    go_wp2_with fail
    refine bodyPost_ret (v := .tuple #[.slice none 0 0, .int .i64 9]) (by simp [results, Try.results55, go_sem]) rfl ?_
    rw [HE.out.1, HE.out.2]
    exact ⟨_, rfl, World.ownsRow_nil _ _ _ _, Kp.refl _ _⟩
  | false =>
    obtain ⟨og, hog⟩ : ∃ og, aget R.F n = og := ⟨_, rfl⟩
    have HOG := hid hog
    clear hog
    cases og with
    | none =>
      have HKF := hid (findN_none' HOG.out)
      have d1 : decide ((-1 : Int) < 0) = true := by decide
      have HE := hid (show readErr R n = 4 ∧ readB R n = [] by rw [readErr, readB, HFO.out, HOG.out]; exact ⟨rfl, rfl⟩)
      go_enter Try.func55, Try.ntmps55
      go_wp2_with fail
      refine (qfind_any Z p R n _ H.out HG.out.f).mono ?_
      rintro e w1 ⟨rfl, hk1⟩
      rw [HKF.out]
      have HK1 := hid hk1
      clear hk1
      go_wp2_with fail
      refine bodyPost_ret (v := .tuple #[.slice none 0 0, .int .i64 4]) (by simp [results, Try.results55, go_sem]) rfl ?_
      rw [HE.out.1, HE.out.2]
      exact ⟨_, rfl, World.ownsRow_nil _ _ _ _, HK1.out⟩
    | some s =>
      obtain ⟨k, hk1, hk2⟩ := findN_some HG.out.nd HOG.out
      have HKF := hid hk1; have HKA := hid hk2
      have d1 : decide ((k : Int) < 0) = false := decide_eq_false (by omega)
      clear hk1 hk2
      have HE := hid (show readErr R n = 0 ∧ readB R n = s ++ pieces R.B n by rw [readErr, readB, HFO.out, HOG.out]; exact ⟨rfl, rfl⟩)
      go_enter Try.func55, Try.ntmps55
      go_wp2_with fail
      refine (qfind_any Z p R n _ H.out HG.out.f).mono ?_
      rintro e w1 ⟨rfl, hk1⟩
      rw [HKF.out]
      have HK1 := hid hk1
      clear hk1
      go_wp2_with fail
      refine (qall_any Z p R k (n, s) _ (H.out.all HK1.out) HKA.out HG.out.f HG.out.b (by have := HG.out.s _ (List.mem_of_getElem? HKA.out); omega)).mono ?_
      rintro e w2 ⟨⟨v, rfl, h2⟩, k2⟩
      have H2 := hid h2; have HK2 := hid k2
      clear h2 k2
      go_wp2_with fail
      refine bodyPost_ret (v := .tuple #[v, .int .i64 0]) (by simp [results, Try.results55, go_sem]) rfl ?_
      rw [HE.out.1, HE.out.2]
      exact ⟨_, rfl, World.ownsRow.mono H2.out HK1.out.size, HK1.out.trans HK2.out⟩
set_option maxRecDepth 100000 in
set_option maxHeartbeats 4000000 in
theorem qsync_any (Z : Nat → Prop) (p : Nat) (R : DS) (w : World) (h : RD Z p R w) (hg : GO R) (hps : pend R.B ≤ 1000000000000) :
    Calls Try.prog 52 #[.pointer (some ⟨p, 0, none⟩)] w fun e w' => e = .returned (.int .i64 (syncErr R)) ∧ Rx Z p (syncD R) w w' := by
  have H := hid h; have HG := hid hg
  obtain ⟨lv, bv, LV, BV, h0⟩ := h
  have c0 := blk_cell h0.cell
  unfold rcs at c0
  obtain ⟨fo, hfo⟩ : ∃ fo, R.off = fo := ⟨_, rfl⟩
  have HFO := hid hfo
  rw [hfo] at c0
  have HPS := hid hps
  clear hg h0 hfo hps
  cases fo with
  | true =>
    have HE := hid (show syncErr R = 9 ∧ syncD R = R by rw [syncErr, syncD, HFO.out]; exact ⟨rfl, rfl⟩)
    go_enter Try.func52, Try.ntmps52
    go_wp2_with fail
    go_ret
    rw [HE.out.1, HE.out.2]
    exact ⟨rfl, Rx.refl H.out (Kp.refl _ _)⟩
  | false =>
    obtain ⟨ff, hff⟩ : ∃ ff, R.fit = ff := ⟨_, rfl⟩
    have HFF := hid hff
    clear hff
    cases ff with
    | false =>
      have HE := hid (show syncErr R = 9 ∧ syncD R = R.begun by rw [syncErr, syncD, HFO.out, HFF.out]; exact ⟨rfl, rfl⟩)
      go_enter Try.func52, Try.ntmps52
      go_wp2_with fail
      refine (qbegin_any Z p R HG.out.o0 HG.out.o1 HG.out.f1 HG.out.k1 _ H.out HG.out.toGd).mono ?_
      rintro e w2 ⟨rfl, hx⟩
      rw [HFF.out]
      have HX := hid hx
      clear hx c0
      go_wp2_with fail
      go_ret
      rw [HE.out.1, HE.out.2]
      exact ⟨rfl, HX.out⟩
    | true =>
      obtain ⟨eF, eB, ebl, eo⟩ := begun_fit HFF.out
      have HGB := hid (HG.out.toGd.same eF eB)
      obtain ⟨R1, hR1⟩ : ∃ R1, R.begun = R1 := ⟨_, rfl⟩
      rw [hR1] at HGB eB
      have HE := hid (show syncErr R = 0 ∧ syncD R = { R1 with F := settleF R1.F R1.B (pend R1.B), B := [] } by rw [syncErr, syncD, HFO.out, HFF.out, hR1, ← eB]; exact ⟨rfl, rfl⟩)
      have HEB := hid eB
      have HR1 := hid hR1
      clear hR1 eF eB ebl eo
      go_enter Try.func52, Try.ntmps52
      go_wp2_with fail
      refine (qbegin_any Z p R HG.out.o0 HG.out.o1 HG.out.f1 HG.out.k1 _ H.out HG.out.toGd).mono ?_
      rintro e w2 ⟨rfl, Z1, hd1, hz1, hk1⟩
      rw [HFF.out]
      rw [HR1.out] at hd1
      have HD1 := hid hd1; have HZ1 := hid hz1; have HK2 := hid hk1
      clear hd1 hz1 hk1 c0
      go_wp2_with fail
      refine (qpend_any Z1 p R1 _ HD1.out HGB.out.b (by rw [HEB.out]; exact HPS.out)).mono ?_
      rintro e w3 ⟨rfl, hk3⟩
      have HK3 := hid hk3
      clear hk3
      go_wp2_with fail
      refine (qsure_any Z1 p R1 (pend R1.B) (by rw [HEB.out]; have := HPS.out; omega) _ (HD1.out.all HK3.out) HGB.out).mono ?_
      rintro e w4 ⟨rfl, hx4⟩
      have HX4 := hid hx4
      clear hx4
      go_wp2_with fail
      go_ret
      rw [HE.out.1, HE.out.2]
      exact ⟨rfl, Rx.trans ⟨Z1, HZ1.out, HK2.out, Rx.pre HK3.out HX4.out⟩⟩
end Go.Proofs.Ytdlbccjimdghkaa
