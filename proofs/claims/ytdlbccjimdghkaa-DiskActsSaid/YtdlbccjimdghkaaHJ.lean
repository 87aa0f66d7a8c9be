/- The document's disk in memory: Create, Remove, Read, Sync: walked once each. No condition but that it lies as RD says, and is good. -/
import Derived.Test.YtdlbccjimdghkaaHI
import Derived.Test.YtdlbccjimdghkaaEB
import Derived.Test.YtdlbccjimdghkaaEC
import Derived.Test.YtdlbccjimdghkaaEE
import Derived.Deep.RegionHeld3
namespace Go.Proofs.Ytdlbccjimdghkaa
open Go.RowKit
set_option linter.unusedVariables false
set_option linter.unusedSimpArgs false
/-- Good, and its numbers are ints. -/
structure GO (R : DS) : Prop extends Gd R where
  o0 : 0 ≤ R.ops
  o1 : R.ops ≤ 4611686018427387904
  f1 : R.fails ≤ 9223372036854775807
  k1 : R.keep ≤ 9223372036854775807
theorem aget_nd {F : List (Nm × By)} {n : Nm} {s : By} (hn : (F.map (·.1)).Nodup) (h : (n, s) ∈ F) : aget F n = some s := by
  induction F with
  | nil => cases h
  | cons x F ih =>
    simp only [List.map_cons, List.nodup_cons] at hn
    unfold aget at ih ⊢
    by_cases e : x.1 = n
    · rw [List.find?_cons_of_pos (by simpa using e)]
      rcases List.mem_cons.1 h with rfl | h
      · rfl
      · exact absurd (List.mem_map.2 ⟨_, h, e.symm⟩) hn.1
    · rw [List.find?_cons_of_neg (by simpa using e)]
      rcases List.mem_cons.1 h with rfl | h
      · exact absurd rfl e
      · exact ih hn.2 h
theorem findN_some {F : List (Nm × By)} {n : Nm} {s : By} (hn : (F.map (·.1)).Nodup) (h : aget F n = some s) : ∃ k : Nat, findN F n = (k : Int) ∧ F[k]? = some (n, s) := by
  obtain ⟨k, s', h1, h2⟩ := findN_mem (F := F) (n := n) (List.mem_map.2 ⟨_, aget_mem h, rfl⟩)
  have := aget_nd hn (List.mem_of_getElem? h2)
  rw [h] at this
  injection this with this
  subst this
  exact ⟨k, h1, h2⟩
theorem findN_none' {F : List (Nm × By)} {n : Nm} (h : aget F n = none) : findN F n = -1 := findN_not (aget_none h)
theorem Gd.gone {R : DS} (h : Gd R) (n : Nm) : Gd (R.gone n) := by
  have h1 : (adel R.F n).length ≤ R.F.length := List.length_filter_le _ _
  have h2 : (adel R.B n).length ≤ R.B.length := List.length_filter_le _ _
  have h3 := h.f; have h4 := h.b
  have hp : pend (adel R.B n) ≤ pend R.B := by
    unfold pend adel
    generalize R.B = B
    induction B with
    | nil => simp
    | cons x B ih =>
      by_cases e : x.1 ≠ n
      · rw [List.filter_cons_of_pos (by simpa using e)]; simp only [List.map_cons, List.sum_cons]; omega
      · rw [List.filter_cons_of_neg (by simpa using e)]; simp only [List.map_cons, List.sum_cons]; omega
  refine { f := by show (adel R.F n).length ≤ _; omega, b := by show (adel R.B n).length ≤ _; omega, s := fun x hx => ?_, nd := ?_, nm := fun x hx => ?_ }
  · have := h.s x (mem_adel hx)
    show x.2.length + pend (adel R.B n) ≤ _
    omega
  · show ((adel R.F n).map (·.1)).Nodup
    exact (List.filter_sublist.map _).nodup h.nd
  · have h5 := h.nm x (mem_adel hx)
    have h6 : x.1 ≠ n := by simpa using (List.mem_filter.1 hx).2
    obtain ⟨y, hy, e⟩ := List.mem_map.1 h5
    exact List.mem_map.2 ⟨y, List.mem_filter.2 ⟨hy, by simp [e, h6]⟩, e⟩
def qput (R : DS) (n : Nm) (s : By) : DS := { R with F := insG (n, s) R.F }
def qcreD1 (D : DS) (n : Nm) : DS := match aget D.F n with
  | some _ => qput (D.gone n) n []
  | none => if D.blocks ≤ (usedOf D.F D.B : Int) then D else qput D n []
def qcreD (D : DS) (n : Nm) : DS := if D.off then D else if goodB n then (if D.fit then qcreD1 D.begun n else D.begun) else D
set_option maxRecDepth 100000 in
set_option maxHeartbeats 4000000 in
theorem qcreate_any (Z : Nat → Prop) (p : Nat) (R : DS) (n : Nm) (hsz : n.size ≤ 9223372036854775806) (w : World) (h : RD Z p R w) (hg : GO R) :
    Calls Try.prog 48 #[.pointer (some ⟨p, 0, none⟩), .string n] w fun e w' => e = .returned (.int .i64 (creErr R n)) ∧ Rx Z p (qcreD R n) w w' := by
  have H := hid h; have HG := hid hg
  obtain ⟨lv, bv, LV, BV, h0⟩ := h
  have c0 := blk_cell h0.cell
  unfold rcs at c0
  obtain ⟨fo, hfo⟩ : ∃ fo, R.off = fo := ⟨_, rfl⟩
  have HFO := hid hfo
  rw [hfo] at c0
  clear hg h0 hfo
  cases fo with
  | true =>
    have HE := hid (show creErr R n = 9 ∧ qcreD R n = R by rw [creErr, qcreD, HFO.out]; exact ⟨rfl, rfl⟩)
    go_enter Try.func48, Try.ntmps48
    go_wp2_with fail
    go_ret
    rw [HE.out.1, HE.out.2]
    exact ⟨rfl, Rx.refl H.out (Kp.refl _ _)⟩
  | false =>
    obtain ⟨fg, hfg⟩ : ∃ fg, goodB n = fg := ⟨_, rfl⟩
    have HFG := hid hfg
    clear hfg
    cases fg with
    | false =>
      have HE := hid (show creErr R n = 3 ∧ qcreD R n = R by rw [creErr, qcreD, HFO.out, HFG.out]; exact ⟨rfl, rfl⟩)
      go_enter Try.func48, Try.ntmps48
      go_wp2_with fail
      refine (rgood_any n hsz _).mono ?_
      rintro e w1 ⟨rfl, rfl⟩
      rw [HFG.out]
      go_wp2_with fail
      go_ret
      rw [HE.out.1, HE.out.2]
      exact ⟨rfl, Rx.refl H.out (Kp.refl _ _)⟩
    | true =>
      obtain ⟨ff, hff⟩ : ∃ ff, R.fit = ff := ⟨_, rfl⟩
      have HFF := hid hff
      clear hff
      cases ff with
      | false =>
        have HE := hid (show creErr R n = 9 ∧ qcreD R n = R.begun by rw [creErr, qcreD, HFO.out, HFG.out, HFF.out]; exact ⟨rfl, rfl⟩)
        go_enter Try.func48, Try.ntmps48
        go_wp2_with fail
        refine (rgood_any n hsz _).mono ?_
        rintro e w1 ⟨rfl, rfl⟩
        rw [HFG.out]
        go_wp2_with fail
        refine (qbegin_any Z p R HG.out.o0 HG.out.o1 HG.out.f1 HG.out.k1 _ H.out HG.out.toGd).mono ?_
        rintro e w1 ⟨rfl, hx⟩
        rw [HFF.out]
        have HX := hid hx
        clear hx c0
        go_wp2_with fail
        go_ret
        rw [HE.out.1, HE.out.2]
        exact ⟨rfl, HX.out⟩
      | true =>
        obtain ⟨eF, eB, ebl, eo⟩ := begun_fit HFF.out
        have HGB := hid (HG.out.toGd.same eF eB)
        obtain ⟨R1, hR1⟩ : ∃ R1, R.begun = R1 := ⟨_, rfl⟩
        have HE := hid (show creErr R n = creErr1 R n ∧ qcreD R n = qcreD1 R1 n by rw [creErr, qcreD, HFO.out, HFG.out, HFF.out, hR1]; exact ⟨rfl, rfl⟩)
        have hE1 : creErr1 R n = creErr1 R1 n := by rw [creErr1, creErr1, createErr1, createErr1, ← hR1, eF, eB, ebl]
        rw [hR1] at HGB
        have HO1 := hid (show R1.off = false by rw [← hR1, eo, HFO.out])
        rw [HE.out.1, HE.out.2, hE1]
        clear HE hE1 eF eB ebl eo
        have HR1 := hid hR1
        clear hR1
        obtain ⟨og, hog⟩ : ∃ og, aget R1.F n = og := ⟨_, rfl⟩
        have HOG := hid hog
        clear hog
        cases og with
        | some s =>
          obtain ⟨k, hk1, hk2⟩ := findN_some HGB.out.nd HOG.out
          have HKF := hid hk1; have HKA := hid hk2
          have d1 : decide ((k : Int) ≥ 0) = true := decide_eq_true (by omega)
          have HE := hid (show creErr1 R1 n = 0 ∧ qcreD1 R1 n = qput (R1.gone n) n [] by rw [creErr1, qcreD1, HOG.out]; exact ⟨rfl, rfl⟩)
          rw [HE.out.1, HE.out.2]
          clear hk1 hk2 HE
          go_enter Try.func48, Try.ntmps48
          go_wp2_with fail
          refine (rgood_any n hsz _).mono ?_
          rintro e w1 ⟨rfl, rfl⟩
          rw [HFG.out]
          go_wp2_with fail
          refine (qbegin_any Z p R HG.out.o0 HG.out.o1 HG.out.f1 HG.out.k1 _ H.out HG.out.toGd).mono ?_
          rintro e w1 ⟨rfl, Z1, hd1, hz1, hk1⟩
          rw [HFF.out]
          rw [HR1.out] at hd1
          have HD1 := hid hd1; have HZ1 := hid hz1; have HK1 := hid hk1
          clear hd1 hz1 hk1 c0
          go_wp2_with fail
          refine (qfind_any Z1 p R1 n _ HD1.out HGB.out.f).mono ?_
          rintro e w2 ⟨rfl, hk2⟩
          rw [HKF.out]
          have HK2 := hid hk2
          clear hk2
          go_wp2_with fail
          refine (qgone_any Z1 p R1 k n s _ (HD1.out.all HK2.out) HGB.out HKA.out).mono ?_
          rintro e w3 ⟨rfl, Z3, hd3, hz3, hk3⟩
          have HD3 := hid hd3; have HZ3 := hid hz3; have HK3 := hid hk3
          clear hd3 hz3 hk3
          go_wp2_with fail
          refine (qput_any Z3 p (R1.gone n) n [] none 0 0 rfl _ HD3.out (HGB.out.gone n).f (World.ownsRow_nil _ _ _ _) (fun b hb => by cases hb)).mono ?_
          rintro e w4 ⟨rfl, hx4⟩
          have HX4 := hid hx4
          clear hx4
          go_wp2_with fail
          go_ret
          exact ⟨rfl, Rx.trans ⟨Z1, HZ1.out, HK1.out, Rx.pre HK2.out (Rx.trans ⟨Z3, HZ3.out, HK3.out, HX4.out⟩)⟩⟩
        | none =>
          have HKF := hid (findN_none' HOG.out)
          have d1 : decide ((-1 : Int) ≥ 0) = false := by decide
          obtain ⟨us, hus⟩ : ∃ us, usedOf R1.F R1.B = us := ⟨_, rfl⟩
          have HUS := hid hus
          clear hus
          by_cases hb : R1.blocks ≤ (us : Int)
          · have d2 : decide ((us : Int) ≥ R1.blocks) = true := decide_eq_true hb
            have HE := hid (show creErr1 R1 n = 7 ∧ qcreD1 R1 n = R1 by rw [creErr1, qcreD1, HOG.out]; dsimp only; rw [createErr1, HUS.out, if_pos hb, if_pos hb]; exact ⟨rfl, rfl⟩)
            rw [HE.out.1, HE.out.2]
            clear HE hb
            go_enter Try.func48, Try.ntmps48
            go_wp2_with fail
            refine (rgood_any n hsz _).mono ?_
            rintro e w1 ⟨rfl, rfl⟩
            rw [HFG.out]
            go_wp2_with fail
            refine (qbegin_any Z p R HG.out.o0 HG.out.o1 HG.out.f1 HG.out.k1 _ H.out HG.out.toGd).mono ?_
            rintro e w1 ⟨rfl, Z1, hd1, hz1, hk1⟩
            rw [HFF.out]
            rw [HR1.out] at hd1
            have HD1 := hid hd1; have HZ1 := hid hz1; have HK1 := hid hk1
            clear hd1 hz1 hk1 c0
            go_wp2_with fail
            refine (qfind_any Z1 p R1 n _ HD1.out HGB.out.f).mono ?_
            rintro e w2 ⟨rfl, hk2⟩
            rw [HKF.out]
            obtain ⟨lv2, bv2, LV2, BV2, h2⟩ := HD1.out.all hk2
            have HD2 := hid h2
            have c2 := blk_cell h2.cell
            unfold rcs at c2
            have HK2 := hid hk2
            clear hk2 h2
            go_wp2_with fail
            go_region_held3 (fun w' => ∀ i, w'.cell? ⟨p, i, none⟩ = (#[.int .i64 R1.blocks, lv2, bv2, .bool R1.off, .int .i64 R1.ops, .int .i64 R1.fails, .int .i64 R1.keep] : Array Value)[i]?) (first | exact blk_cell (HK3.out.heap HD2.out.cell trivial) | assumption) (first | (go_at_call 63; refine (qused_any Z1 p R1 _ ⟨_, _, _, _, HD2.out.all (Kp.refl All _).drew⟩ HGB.out.toSm).mono ?_; rintro e w3 ⟨rfl, hk3⟩; rw [if_neg (show ¬ R1.off = true by rw [HO1.out]; simp), HUS.out]; have HK3 := hid ((Kp.refl All w2).drew.trans hk3); clear hk3))
            go_wp2_with fail
            all_goals (
              go_ret
              exact ⟨rfl, Rx.trans ⟨Z1, HZ1.out, HK1.out, Rx.refl HD1.out (HK2.out.trans HK3.out)⟩⟩)
          · have d2 : decide ((us : Int) ≥ R1.blocks) = false := decide_eq_false hb
            have HE := hid (show creErr1 R1 n = 0 ∧ qcreD1 R1 n = qput R1 n [] by rw [creErr1, qcreD1, HOG.out]; dsimp only; rw [createErr1, HUS.out, if_neg hb, if_neg hb]; exact ⟨rfl, rfl⟩)
            rw [HE.out.1, HE.out.2]
            clear HE hb
            go_enter Try.func48, Try.ntmps48
            go_wp2_with fail
            refine (rgood_any n hsz _).mono ?_
            rintro e w1 ⟨rfl, rfl⟩
            rw [HFG.out]
            go_wp2_with fail
            refine (qbegin_any Z p R HG.out.o0 HG.out.o1 HG.out.f1 HG.out.k1 _ H.out HG.out.toGd).mono ?_
            rintro e w1 ⟨rfl, Z1, hd1, hz1, hk1⟩
            rw [HFF.out]
            rw [HR1.out] at hd1
            have HD1 := hid hd1; have HZ1 := hid hz1; have HK1 := hid hk1
            clear hd1 hz1 hk1 c0
            go_wp2_with fail
            refine (qfind_any Z1 p R1 n _ HD1.out HGB.out.f).mono ?_
            rintro e w2 ⟨rfl, hk2⟩
            rw [HKF.out]
            obtain ⟨lv2, bv2, LV2, BV2, h2⟩ := HD1.out.all hk2
            have HD2 := hid h2
            have c2 := blk_cell h2.cell
            unfold rcs at c2
            have HK2 := hid hk2
            clear hk2 h2
            go_wp2_with fail
            go_region_held3 (fun w' => ∀ i, w'.cell? ⟨p, i, none⟩ = (#[.int .i64 R1.blocks, lv2, bv2, .bool R1.off, .int .i64 R1.ops, .int .i64 R1.fails, .int .i64 R1.keep] : Array Value)[i]?) (first | exact blk_cell (HK3.out.heap HD2.out.cell trivial) | assumption) (first | (go_at_call 63; refine (qused_any Z1 p R1 _ ⟨_, _, _, _, HD2.out.all (Kp.refl All _).drew⟩ HGB.out.toSm).mono ?_; rintro e w3 ⟨rfl, hk3⟩; rw [if_neg (show ¬ R1.off = true by rw [HO1.out]; simp), HUS.out]; have HK3 := hid ((Kp.refl All w2).drew.trans hk3); clear hk3))
            go_wp2_with fail
            refine (qput_any Z1 p R1 n [] none 0 0 rfl _ (HD1.out.all (HK2.out.trans HK3.out)) HGB.out.f (World.ownsRow_nil _ _ _ _) (fun b hb => by cases hb)).mono ?_
            rintro e w4 ⟨rfl, hx4⟩
            have HX4 := hid hx4
            clear hx4
            go_wp2_with fail
            go_ret
            exact ⟨rfl, Rx.trans ⟨Z1, HZ1.out, HK1.out, Rx.pre (HK2.out.trans HK3.out) HX4.out⟩⟩
end Go.Proofs.Ytdlbccjimdghkaa
