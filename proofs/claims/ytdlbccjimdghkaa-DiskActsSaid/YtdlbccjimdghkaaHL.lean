/- The document's disk in memory: Append, walked once. No condition but that it lies as RD says, and is good. -/
import Derived.Test.YtdlbccjimdghkaaHK
namespace Go.Proofs.Ytdlbccjimdghkaa
open Go.RowKit
set_option linter.unusedVariables false
set_option linter.unusedSimpArgs false
theorem qapp_end {Z : Nat → Prop} {p : Nat} {R : DS} {lv bv : Value} {LV BV : List Itm} {w w5 w7 : World} {n : Nm} {b : By} {A5 A7 : Option Addr} {xl e5 nb e7 : Nat} (h : RD0 Z p R lv bv LV BV w) (k5 : Kp All w w5) (h5 : w5.ownsRow w.heap.size 5 1 (.slice A5 xl e5) xl (u8s b)) (hxl : b.length = xl)
    (k7 : Kp (fun i => some i ≠ bv.ownBlock) w w7) (hnb : BV.length = nb) (h7 : w7.ownsRow 0 96 2 (.slice A7 (nb + 1) e7) (nb + 1) (ncs BV ++ [.string n, .slice A5 xl e5])) (hob : (Value.slice A7 (nb + 1) e7).ownBlock = bv.ownBlock ∨ w.heap.size ≤ ((Value.slice A7 (nb + 1) e7).ownBlock).getD 0)
    (h5' : w7.ownsRow w.heap.size 5 1 (.slice A5 xl e5) xl (u8s b)) (b7 : w7.heap[p]? = some (.cells (rcs R lv bv) 77 (0, 0))) :
    Rx Z p (R.push n b) w (w7.setCell ⟨p, 2, none⟩ (.slice A7 (nb + 1) e7)) := by
  have kS : Kp (fun i => i ≠ p) w7 (w7.setCell ⟨p, 2, none⟩ (.slice A7 (nb + 1) e7)) := (Kp.refl _ _).setOut (fun h => h rfl) _
  have hpw : ∀ {e sz n : Nat} {u : Value} {xs : List Value}, w7.ownsRow 0 e sz u n xs → e ≠ 77 → ∀ i, u.ownBlock = some i → i ≠ p := fun hu he i hi => by
    obtain ⟨cur, hc⟩ := own_ty hu hi
    exact ty_ne hc b7 he
  have hbb : ∀ {e sz n : Nat} {u : Value} {xs : List Value}, w.ownsRow 0 e sz u n xs → e ≠ 96 → ∀ i, u.ownBlock = some i → some i ≠ bv.ownBlock := fun hu he i hi e2 => by
    obtain ⟨cur, hc⟩ := own_ty hu hi
    obtain ⟨cur2, hc2⟩ := own_ty h.br e2.symm
    exact ty_ne hc hc2 he rfl
  have hl7 := own_kept h.fr k7 (hbb h.fr (by decide))
  have h50 := World.ownsRow.mono h5' (Nat.zero_le _)
  subst hxl hnb
  refine Rx.mk' h ((k7.mono fun i hi hn e => hn (h.zb i e.symm)).trans (kS.mono fun i hi hn e => hn (e ▸ h.zp))) (lv' := lv) (bv' := .slice A7 (BV.length + 1) e7) (LV' := LV) (BV' := BV ++ [(n, b, .slice A5 b.length e5)]) ?_ h.fe ?_ (own_kept hl7 kS (hpw hl7 (by decide))) ?_ ?_ ?_ ?_
  · rw [blk_set b7 2]; rfl
  · show R.B ++ [(n, b)] = _
    rw [h.be]; simp [nms]
  · rw [List.length_append, ncs_app]
    exact own_kept h7 kS (hpw h7 (by decide))
  · intro x hx
    have hcs : (x ∈ LV ∨ x ∈ BV) ∨ x = (n, b, .slice A5 b.length e5) := by
      rcases hx with hx | hx
      · exact .inl (.inl hx)
      · rcases List.mem_append.1 hx with hx | hx
        · exact .inl (.inr hx)
        · exact .inr (List.mem_singleton.1 hx)
    rcases hcs with hx | rfl
    · have h1 := own_kept (h.data x hx) k7 (hbb (h.data x hx) (by decide))
      exact ⟨own_kept h1 kS (hpw h1 (by decide)), fun i hi => .inl (h.zd x hx i hi)⟩
    · exact ⟨own_kept h50 kS (hpw h50 (by decide)), fun i hi => .inr (h5.lt i hi).1⟩
  · exact fun i hi => .inl (h.zl i hi)
  · intro i hi
    rcases hob with e | e
    · rw [e] at hi; exact .inl (h.zb i hi)
    · rw [hi] at e; exact .inr e
set_option maxRecDepth 100000 in
set_option maxHeartbeats 4000000 in
theorem qapp_any (Z : Nat → Prop) (p : Nat) (R : DS) (n : Nm) (b : By) (XA : Option Addr) (xl xc : Nat) (hxl : b.length = xl) (hxs : xl ≤ 1000000000) (w : World) (h : RD Z p R w) (hg : GO R) (hbk : 0 ≤ R.blocks ∧ R.blocks ≤ 1000000000) (hsl : Foot (fun b => ¬ Z b) (Sl XA xl xc 1 (u8s b)) w) :
    Calls Try.prog 50 #[.pointer (some ⟨p, 0, none⟩), .string n, .slice XA xl xc] w fun e w' => e = .returned (.int .i64 (appErr R n b)) ∧ Rx Z p (appD R n b) w w' := by
  have H := hid h; have HG := hid hg
  obtain ⟨lv, bv, LV, BV, h0⟩ := h
  have c0 := blk_cell h0.cell
  unfold rcs at c0
  obtain ⟨fo, hfo⟩ : ∃ fo, R.off = fo := ⟨_, rfl⟩
  have HFO := hid hfo
  rw [hfo] at c0
  have HXL := hid hxl
  have HSL := hid hsl
  have HBK := hid hbk
  clear hg h0 hfo hxl hsl hbk
  cases fo with
  | true =>
    have HE := hid (show appErr R n b = 9 ∧ appD R n b = R by rw [appErr, appD, HFO.out]; exact ⟨rfl, rfl⟩)
    go_enter Try.func50, Try.ntmps50
    go_wp2_with fail
    go_ret
    rw [HE.out.1, HE.out.2]
    exact ⟨rfl, Rx.refl H.out (Kp.refl _ _)⟩
  | false =>
    obtain ⟨og, hog⟩ : ∃ og, aget R.F n = og := ⟨_, rfl⟩
    have HOG := hid hog
    clear hog
    cases og with
    | none =>
      have HKF := hid (findN_none' HOG.out)
      have d1 : decide ((-1 : Int) < 0) = true := by decide
      have HE := hid (show appErr R n b = 4 ∧ appD R n b = R by rw [appErr, appD, HFO.out, HOG.out]; exact ⟨rfl, rfl⟩)
      go_enter Try.func50, Try.ntmps50
      go_wp2_with fail
      refine (qfind_any Z p R n _ H.out HG.out.f).mono ?_
      rintro e w1 ⟨rfl, hk1⟩
      rw [HKF.out]
      have HK1 := hid hk1
      clear hk1
      go_wp2_with fail
      go_ret
      rw [HE.out.1, HE.out.2]
      exact ⟨rfl, Rx.refl H.out HK1.out⟩
    | some s =>
      obtain ⟨k, hk1, hk2⟩ := findN_some HG.out.nd HOG.out
      have HKF := hid hk1; have HKA := hid hk2
      have d1 : decide ((k : Int) < 0) = false := decide_eq_false (by omega)
      clear hk1 hk2
      obtain ⟨ff, hff⟩ : ∃ ff, R.fit = ff := ⟨_, rfl⟩
      have HFF := hid hff
      clear hff
      cases ff with
      | false =>
        have HE := hid (show appErr R n b = 9 ∧ appD R n b = R.begun by rw [appErr, appD, HFO.out, HOG.out, HFF.out]; exact ⟨rfl, rfl⟩)
        go_enter Try.func50, Try.ntmps50
        go_wp2_with fail
        refine (qfind_any Z p R n _ H.out HG.out.f).mono ?_
        rintro e w1 ⟨rfl, hk1⟩
        rw [HKF.out]
        have HK1 := hid hk1
        clear hk1
        go_wp2_with fail
        refine (qbegin_any Z p R HG.out.o0 HG.out.o1 HG.out.f1 HG.out.k1 _ (H.out.all HK1.out) HG.out.toGd).mono ?_
        rintro e w2 ⟨rfl, hx⟩
        rw [HFF.out]
        have HX := hid hx
        clear hx c0
        go_wp2_with fail
        go_ret
        rw [HE.out.1, HE.out.2]
        exact ⟨rfl, Rx.pre HK1.out HX.out⟩
      | true =>
        obtain ⟨eF, eB, ebl, eo⟩ := begun_fit HFF.out
        have HGB := hid (HG.out.toGd.same eF eB)
        obtain ⟨R1, hR1⟩ : ∃ R1, R.begun = R1 := ⟨_, rfl⟩
        obtain ⟨sz, hsz⟩ : ∃ sz, s.length + moreOf R.B n = sz := ⟨_, rfl⟩
        obtain ⟨us, hus⟩ : ∃ us, usedOf R.F R.B = us := ⟨_, rfl⟩
        have HE := hid (show appErr R n b = (if R.blocks - (us : Int) < ((needs (sz + xl) - needs sz : Nat) : Int) then 7 else 0) ∧ appD R n b = (if R.blocks - (us : Int) < ((needs (sz + xl) - needs sz : Nat) : Int) then R1 else R1.push n b) by rw [appErr, appD, HFO.out, HOG.out, HFF.out, hR1]; dsimp only; rw [hus, grow, hsz, HXL.out]; exact ⟨rfl, rfl⟩)
        rw [hR1] at HGB eF eB ebl eo
        have hsz1 : sz ≤ 1000000000 := by
          have h1 := HG.out.s _ (List.mem_of_getElem? HKA.out)
          have h2 : moreOf R.B n ≤ pend R.B := mem_moreOf_le
          dsimp only at h1
          omega
        have husl : us ≤ 1000000 * 20000000 := by
          rw [← hus]
          have h1 := HG.out.f
          have h2 : usedOf R.F R.B ≤ R.F.length * 20000000 := by
            have h3 := HG.out.s
            unfold usedOf
            have : ∀ F : List (Nm × By), (∀ x ∈ F, x.2.length + pend R.B ≤ 1000000000) → (F.map fun x => needs (x.2.length + moreOf R.B x.1)).sum ≤ F.length * 20000000 := by
              intro F
              induction F with
              | nil => intro _; simp
              | cons x F ih =>
                intro hF
                have h4 := hF x (List.mem_cons_self ..)
                have h5 := ih (fun y hy => hF y (List.mem_cons_of_mem _ hy))
                have h6 : moreOf R.B x.1 ≤ pend R.B := mem_moreOf_le
                simp only [List.map_cons, List.sum_cons, List.length_cons]
                have : needs (x.2.length + moreOf R.B x.1) ≤ 20000000 := by rw [needs]; omega
                omega
            exact this R.F h3
          exact Nat.le_trans h2 (Nat.mul_le_mul_right _ h1)
        obtain ⟨nd1, hnd1⟩ : ∃ nd1, needs (sz + xl) = nd1 := ⟨_, rfl⟩
        obtain ⟨nd0, hnd0⟩ : ∃ nd0, needs sz = nd0 := ⟨_, rfl⟩
        have hnd : nd0 ≤ nd1 ∧ nd1 ≤ 100000000 := by rw [← hnd0, ← hnd1, needs, needs]; omega
        have HN1 := hid hnd1; have HN0 := hid hnd0
        rw [hnd1, hnd0] at HE
        have HEF := hid eF; have HEB := hid eB; have HEL := hid ebl; have HEO := hid eo
        have HR1 := hid hR1; have HSZ := hid hsz; have HUS := hid hus
        obtain ⟨bk, hbk⟩ : ∃ bk, R.blocks = bk := ⟨_, rfl⟩
        have HBQ := hid hbk
        have hb2 : 0 ≤ bk ∧ bk ≤ 1000000000 := by rw [← hbk]; exact HBK.out
        rw [hbk] at HE
        have hw1 : IntKind.i64.wrap ((sz : Int) + (xl : Int)) = ((sz + xl : Nat) : Int) := by rw [IntWalk.i64_in _ (by omega)]; omega
        have hw2 : IntKind.i64.wrap ((nd1 : Int) - (nd0 : Int)) = (nd1 : Int) - (nd0 : Int) := by rw [IntWalk.i64_in _ (by omega)]
        have hw3 : IntKind.i64.wrap (bk - (us : Int)) = bk - (us : Int) := by rw [IntWalk.i64_in _ (by omega)]
        have HW1 := hid hw1; have HW2 := hid hw2; have HW3 := hid hw3
        have HND := hid hnd
        clear hR1 eF eB ebl eo hsz hus hnd1 hnd0 hbk hw1 hw2 hw3
        have hcs : bk - (us : Int) < (nd1 : Int) - (nd0 : Int) ∨ ¬ bk - (us : Int) < (nd1 : Int) - (nd0 : Int) := Classical.em _
        refine or2 hcs ?kA ?kB
        case' kA =>
          intro hlt
          have HLT := hid (show decide ((nd1 : Int) - (nd0 : Int) > bk - (us : Int)) = true from decide_eq_true hlt)
          have HE2 := hid (show appErr R n b = 7 ∧ appD R n b = R1 by rw [HE.out.1, HE.out.2, if_pos (by omega), if_pos (by omega)]; exact ⟨rfl, rfl⟩)
        case' kB =>
          intro hlt
          have HLT := hid (show decide ((nd1 : Int) - (nd0 : Int) > bk - (us : Int)) = false from decide_eq_false hlt)
          have HE2 := hid (show appErr R n b = 0 ∧ appD R n b = R1.push n b by rw [HE.out.1, HE.out.2, if_neg (by omega), if_neg (by omega)]; exact ⟨rfl, rfl⟩)
        all_goals (
          clear hlt hcs HE hnd husl hb2
          rw [HE2.out.1, HE2.out.2]
          go_enter Try.func50, Try.ntmps50
          go_wp2_with fail
          refine (qfind_any Z p R n _ H.out HG.out.f).mono ?_
          rintro e w1 ⟨rfl, hk1⟩
          rw [HKF.out]
          have HK1 := hid hk1
          clear hk1
          go_wp2_with fail
          refine (qbegin_any Z p R HG.out.o0 HG.out.o1 HG.out.f1 HG.out.k1 _ (H.out.all HK1.out) HG.out.toGd).mono ?_
          rintro e w2 ⟨rfl, Z1, hd1, hz1, hk2⟩
          rw [HFF.out]
          rw [HR1.out] at hd1
          have hzs := fun w' (hk : Kp (fun b => ¬ Z b) w1 w') => hk
          have HD1 := hid hd1; have HZ1 := hid hz1; have HK2 := hid hk2
          clear hd1 hz1 hk2 c0 hzs
          go_wp2_with fail
          refine (qall_any Z1 p R1 k (n, s) _ HD1.out (by rw [HEF.out]; exact HKA.out) HGB.out.f HGB.out.b (by have := HG.out.s _ (List.mem_of_getElem? HKA.out); rw [HEB.out]; omega)).mono ?_
          rintro e w3 ⟨⟨v, rfl, h3⟩, k3⟩
          obtain ⟨VA, vc, rfl⟩ := own_shape h3
          have hlen : ((n, s).2 ++ pieces R1.B (n, s).1).length = sz := by rw [List.length_append, pieces_len, HEB.out]; exact HSZ.out
          rw [hlen]
          obtain ⟨lv3, bv3, LV3, BV3, hd3⟩ := HD1.out.all k3
          have c3 := blk_cell hd3.cell
          unfold rcs at c3
          rw [HEL.out, HBQ.out] at c3
          have HD3 := hid hd3
          have HK3 := hid k3
          have hw1 := HW1.out; have hw2 := HW2.out; have hw3 := HW3.out; have hlt := HLT.out
          clear h3 hlen k3 hd3
          go_wp2_with fail
          go_region_held3 (fun w' => ∀ i, w'.cell? ⟨p, i, none⟩ = (#[.int .i64 bk, lv3, bv3, .bool R1.off, .int .i64 R1.ops, .int .i64 R1.fails, .int .i64 R1.keep] : Array Value)[i]?) (first | exact (by have h := blk_cell (HK4.out.heap HD3.out.cell trivial); unfold rcs at h; rw [HEL.out, HBQ.out] at h; exact h) | assumption) (first | (go_at_call 63; refine (qused_any Z1 p R1 _ ⟨_, _, _, _, HD3.out.all (Kp.refl All _).drew⟩ HGB.out.toSm).mono ?_; rintro e w4 ⟨rfl, hk4⟩; rw [if_neg (show ¬ R1.off = true by rw [HEO.out, HFO.out]; simp), HEF.out, HEB.out, HUS.out]; have HK4 := hid ((Kp.refl All w3).drew.trans hk4); clear hk4) | (go_at_call 76; refine (qneeds_any (sz + xl) (by omega) _).mono ?_; rw [HN1.out]; rintro e w9 ⟨rfl, rfl⟩) | (go_at_call 76; refine (qneeds_any sz (by omega) _).mono ?_; rw [HN0.out]; rintro e w9 ⟨rfl, rfl⟩))
          go_wp2_with fail)
        all_goals (
          have h4 := HD3.out.all HK4.out
          have HD4 := hid h4
          have HKF4 := hid (HK3.out.trans HK4.out)
          have c4 := blk_cell h4.cell
          unfold rcs at c4
          have f4 := blk_free h4.cell
          clear h4 hw1 hw2 hw3 hlt c3)
        · obtain ⟨LA4, lc4, rfl⟩ := own_shape HD4.out.fr
          obtain ⟨BA4, bc4, rfl⟩ := own_shape HD4.out.br
          have hs2 : p < w4.heap.size := blk_lt HD4.out.cell
          obtain ⟨nb, hnb⟩ : ∃ nb, BV3.length = nb := ⟨_, rfl⟩
          have HNB := hid hnb
          rw [hnb] at c4
          have hnbl : nb ≤ 1000000 := by
            rw [← hnb]
            have h1 := HGB.out.b
            have h2 := HD4.out.be
            rw [h2, nms, List.length_map] at h1; exact h1
          clear hnb
          refine RegionLast.wp_region_end_held (S := fun w' => ∀ i, w'.cell? ⟨p, i, none⟩ = (#[.int .i64 R1.blocks, .slice LA4 LV3.length lc4, .slice BA4 nb bc4, .bool R1.off, .int .i64 R1.ops, .int .i64 R1.fails, .int .i64 R1.keep] : Array Value)[i]?) (by kernel_rfl) (by kernel_rfl) (fun i => c4 i) (fun hHeld => ?_)
          simp only [List.length_cons, List.length_nil, Nat.zero_add, Nat.reduceAdd, Nat.reduceSub, List.take_succ_cons, List.take_zero, List.drop_succ_cons, List.drop_zero]
          (refine wpAnyH_take (i := 0) (oi := _) (v := ?_) (by (simp only [List.getElem?_toArray, List.getElem?_cons_succ, List.getElem?_cons_zero]); rfl) (by kernel_rfl) (by kernel_rfl) (by kernel_rfl) (by exact fun _ _ _ h => h) (Or.inl ⟨by rfl, ?_⟩) (by assumption) ?_; rotate_left; focus ((intro w hSw; (try dsimp only at hSw); go_simp) <;> with_reducible rfl); (try simp only [Act.put, List.getElem_toArray, List.getElem_cons_succ, List.getElem_cons_zero, List.setIfInBounds_toArray, List.set_cons_zero, List.set_cons_succ]))
          (refine wpAnyH_take (i := 1) (oi := _) (v := ?_) (by (simp only [List.getElem?_toArray, List.getElem?_cons_succ, List.getElem?_cons_zero]); rfl) (by kernel_rfl) (by kernel_rfl) (by kernel_rfl) (by exact fun _ _ _ h => h) (Or.inl ⟨by rfl, ?_⟩) (by assumption) ?_; rotate_left; focus ((intro w hSw; (try dsimp only at hSw); go_simp) <;> with_reducible rfl); (try simp only [Act.put, List.getElem_toArray, List.getElem_cons_succ, List.getElem_cons_zero, List.setIfInBounds_toArray, List.set_cons_zero, List.set_cons_succ]))
          (refine wpAnyH_take (i := 2) (oi := _) (v := ?_) (by (simp only [List.getElem?_toArray, List.getElem?_cons_succ, List.getElem?_cons_zero]); rfl) (by kernel_rfl) (by kernel_rfl) (by kernel_rfl) (by exact fun _ _ _ h => h) (Or.inl ⟨by rfl, ?_⟩) (by assumption) ?_; rotate_left; focus ((intro w hSw; (try dsimp only at hSw); go_simp) <;> with_reducible rfl); (try simp only [Act.put, List.getElem_toArray, List.getElem_cons_succ, List.getElem_cons_zero, List.setIfInBounds_toArray, List.set_cons_zero, List.set_cons_succ]))
          (refine wpAnyH_take (i := 3) (oi := _) (v := ?_) (by (simp only [List.getElem?_toArray, List.getElem?_cons_succ, List.getElem?_cons_zero]); rfl) (by kernel_rfl) (by kernel_rfl) (by kernel_rfl) (by exact fun _ _ _ h => h) (Or.inl ⟨by rfl, ?_⟩) (by assumption) ?_; rotate_left; focus ((intro w hSw; (try dsimp only at hSw); go_simp) <;> with_reducible rfl); (try simp only [Act.put, List.getElem_toArray, List.getElem_cons_succ, List.getElem_cons_zero, List.setIfInBounds_toArray, List.set_cons_zero, List.set_cons_succ]))
          (refine wpAnyH_take (i := 4) (oi := _) (v := ?_) (by (simp only [List.getElem?_toArray, List.getElem?_cons_succ, List.getElem?_cons_zero]); rfl) (by kernel_rfl) (by kernel_rfl) (by kernel_rfl) (by exact fun _ _ _ h => h) (Or.inl ⟨by rfl, ?_⟩) (by assumption) ?_; rotate_left; focus ((intro w hSw; (try dsimp only at hSw); go_simp) <;> with_reducible rfl); (try simp only [Act.put, List.getElem_toArray, List.getElem_cons_succ, List.getElem_cons_zero, List.setIfInBounds_toArray, List.set_cons_zero, List.set_cons_succ]))
          (refine wpAnyH_take (i := 5) (oi := _) (v := ?_) (by (simp only [List.getElem?_toArray, List.getElem?_cons_succ, List.getElem?_cons_zero]); rfl) (by kernel_rfl) (by kernel_rfl) (by kernel_rfl) (by exact fun _ _ _ h => h) (Or.inl ⟨by rfl, ?_⟩) (by assumption) ?_; rotate_left; focus ((intro w hSw; (try dsimp only at hSw); go_simp) <;> with_reducible rfl); (try simp only [Act.put, List.getElem_toArray, List.getElem_cons_succ, List.getElem_cons_zero, List.setIfInBounds_toArray, List.set_cons_zero, List.set_cons_succ]))
          (refine wpAnyH_take (i := 7) (oi := _) (v := ?_) (by (simp only [List.getElem?_toArray, List.getElem?_cons_succ, List.getElem?_cons_zero]); rfl) (by kernel_rfl) (by kernel_rfl) (by kernel_rfl) (by exact fun _ _ _ h => h) (Or.inl ⟨by rfl, ?_⟩) (by assumption) ?_; rotate_left; focus ((intro w hSw; (try dsimp only at hSw); go_simp) <;> with_reducible rfl); (try simp only [Act.put, List.getElem_toArray, List.getElem_cons_succ, List.getElem_cons_zero, List.setIfInBounds_toArray, List.set_cons_zero, List.set_cons_succ]))
          (try simp only [Act.put, List.setIfInBounds_toArray, List.set_cons_zero, List.set_cons_succ])
          refine wpAnyH_ready (rs := [6]) (by kernel_rfl) (by simp) ?_
          refine AllReadyH.cons rfl ?_ AllReadyH.nil
          intro KQ hKQ
          refine step_plain rfl ?_
          go_simp
          have k5 : Kp All w4 (w4.alloc (.cells #[] 5)).drew := (Kp.al _ _).drew
          have cp5 := blk_cell (k5.heap HD4.out.cell trivial)
          unfold rcs at cp5
          rw [HNB.out] at cp5
          refine hKQ.out _ _ (fun i => cp5 i) (fun hHeld2 => ?_)
          clear hKQ KQ k5 cp5
          (try simp only [Act.put, List.setIfInBounds_toArray, List.set_cons_zero, List.set_cons_succ])
          refine wpAnyH_ready (rs := [8]) (by kernel_rfl) (by simp) ?_
          refine AllReadyH.cons rfl ?_ AllReadyH.nil
          intro KQ hKQ
          refine step_plain rfl (wp_app el8 (World.ownsRow.drew (own_build0 (w := w4) (e := 5) (sz := 1) (base := w4.heap.size) (Nat.le_refl _))) (A := XA) (m := xl) (c := xc) (news := u8s b) ?_ ?_ ?_ ?_ _ _ rfl rfl rfl ?_)
          (exact HSL.out _ ((HK1.out.all.trans HK2.out).trans ((HKF4.out.alloc (.cells #[] 5)).drew.all)))
          (exact u8s_one b)
          (omega)
          (exact ((Kp.refl All w4).alloc _).size)
          intro v1 w5 hown5 hg5 hob5 hnil5
          rw [Nat.zero_add, List.nil_append] at hown5
          obtain ⟨A5, e5, rfl⟩ := own_shape hown5
          have k5 : Kp All w4 w5 := ((Kp.refl All w4).alloc (.cells #[] 5)).drew.then (Kp.grown hg5) (fun i hi _ e => by simp [Value.ownBlock] at e; omega)
          have cp5 := blk_cell (k5.heap HD4.out.cell trivial)
          unfold rcs at cp5
          rw [HNB.out] at cp5
          have K5 := hid k5; have OW5 := hid hown5
          clear hown5 hg5 hob5 hnil5 k5
          refine hKQ.out _ _ (fun i => cp5 i) (fun hHeld3 => ?_)
          clear hKQ KQ cp5
          (refine wpAnyH_take (i := 9) (oi := _) (v := ?_) (by (simp only [List.getElem?_toArray, List.getElem?_cons_succ, List.getElem?_cons_zero]); rfl) (by kernel_rfl) (by kernel_rfl) (by kernel_rfl) (by exact fun _ _ _ h => h) (Or.inl ⟨by rfl, ?_⟩) (by assumption) ?_; rotate_left; focus ((intro w hSw; (try dsimp only at hSw); go_simp) <;> with_reducible rfl); (try simp only [Act.put, List.getElem_toArray, List.getElem_cons_succ, List.getElem_cons_zero, List.setIfInBounds_toArray, List.set_cons_zero, List.set_cons_succ]))
          (try simp only [Act.put, List.setIfInBounds_toArray, List.set_cons_zero, List.set_cons_succ])
          refine wpAnyH_ready (rs := [10]) (by kernel_rfl) (by simp) ?_
          refine AllReadyH.cons rfl ?_ AllReadyH.nil
          intro KQ hKQ
          refine step_plain rfl ?_
          go_simp
          have k6 : Kp All w4 (w5.alloc (.cells #[.string n, .slice A5 xl e5] 96)) := K5.out.alloc _
          have cp6 := blk_cell (k6.heap HD4.out.cell trivial)
          unfold rcs at cp6
          rw [HNB.out] at cp6
          have K6 := hid k6
          refine hKQ.out _ _ (fun i => cp6 i) (fun hHeld4 => ?_)
          clear hKQ KQ cp6 k6
          (try simp only [Act.put, List.setIfInBounds_toArray, List.set_cons_zero, List.set_cons_succ])
          refine wpAnyH_ready (rs := [11]) (by kernel_rfl) (by simp) ?_
          refine AllReadyH.cons rfl ?_ AllReadyH.nil
          intro KQ hKQ
          refine step_plain rfl (wp_app elW (by have h := own_kept HD4.out.br K6.out (fun _ _ => trivial); rw [HNB.out] at h; exact h) (sl_two rfl (.string n) (.slice A5 xl e5) _) (two_ok _ _ _ _) ?_ ?_ _ _ rfl rfl rfl ?_)
          (omega)
          (exact Nat.zero_le _)
          intro v2 w7 hown7 hg7 hob7 hnil7
          obtain ⟨A7, e7, rfl⟩ := own_shape hown7
          have k7 : Kp (fun i => some i ≠ (Value.slice BA4 nb bc4).ownBlock) w4 w7 := K6.out.all.then (Kp.grown hg7) (fun i hi h => h)
          have hpb : some p ≠ (Value.slice BA4 nb bc4).ownBlock := fun e => by
            have hb := HD4.out.br
            rw [HNB.out] at hb
            obtain ⟨cur, hc⟩ := own_ty hb e.symm
            exact ty_ne hc HD4.out.cell (by decide) rfl
          have b7 := k7.heap HD4.out.cell hpb
          have cp7 := blk_cell b7
          have f7 := blk_free b7
          unfold rcs at cp7
          rw [HNB.out] at cp7
          have HG7 := hid hg7; have K7 := hid k7; have OW7 := hid hown7; have B7 := hid b7
          have HOB := hid (show (Value.slice A7 (nb + 1) e7).ownBlock = (Value.slice BA4 nb bc4).ownBlock ∨ (Value.slice A7 (nb + 1) e7).ownBlock = some (w5.alloc (.cells #[.string n, .slice A5 xl e5] 96)).heap.size from hob7)
          clear hown7 hg7 hob7 hnil7 k7 b7 hpb
          refine hKQ.out _ _ (fun i => cp7 i) (fun hHeld5 => ?_)
          clear hKQ KQ
          (refine wpAnyH_take (i := 12) (oi := _) (v := ?_) (by (simp only [List.getElem?_toArray, List.getElem?_cons_succ, List.getElem?_cons_zero]); rfl) (by kernel_rfl) (by kernel_rfl) (by kernel_rfl) (by exact fun _ _ _ h => h) (Or.inl ⟨by rfl, ?_⟩) (by assumption) ?_; rotate_left; focus ((intro w hSw; (try dsimp only at hSw); go_simp) <;> with_reducible rfl); (try simp only [Act.put, List.getElem_toArray, List.getElem_cons_succ, List.getElem_cons_zero, List.setIfInBounds_toArray, List.set_cons_zero, List.set_cons_succ]))
          (refine wpAnyH_take (i := 13) (oi := _) (v := ?_) (by (simp only [List.getElem?_toArray, List.getElem?_cons_succ, List.getElem?_cons_zero]); rfl) (by kernel_rfl) (by kernel_rfl) (by kernel_rfl) (by exact fun _ _ _ h => h) (Or.inl ⟨by rfl, ?_⟩) (by assumption) ?_; rotate_left; focus ((intro w hSw; (try dsimp only at hSw); go_simp) <;> with_reducible rfl); (try simp only [Act.put, List.getElem_toArray, List.getElem_cons_succ, List.getElem_cons_zero, List.setIfInBounds_toArray, List.set_cons_zero, List.set_cons_succ]))
          (try simp only [Act.put, List.setIfInBounds_toArray, List.set_cons_zero, List.set_cons_succ])
          refine wpAnyH_done (by kernel_rfl) ?_ _
          unfold RegionLast.LastQ
          dsimp only
          all_goals (go_wp2_with fail)
          go_ret
          refine ⟨rfl, Rx.pre HK1.out (Rx.trans ⟨Z1, HZ1.out, HK2.out, Rx.pre HKF4.out ?_⟩)⟩
          have h57 := own_kept (own_kept OW5.out (Kp.al w5 (.cells #[.string n, .slice A5 xl e5] 96)) (fun _ _ => trivial)) (Kp.grown HG7.out) (fun i hi e => by
            have hb := HD4.out.br
            rw [HNB.out] at hb
            have := (OW5.out.lt i hi).1
            have := (hb.lt i e.symm).2
            omega)
          have hd4 := HD4.out
          rw [HNB.out] at hd4
          refine qapp_end hd4 K5.out OW5.out HXL.out K7.out HNB.out OW7.out ?_ h57 (by have h := B7.out; rw [HNB.out] at h; exact h)
          rcases HOB.out with e | e
          · exact .inl e
          · right; rw [e]; have := K6.out.size; simpa using this
        · go_ret
          exact ⟨rfl, Rx.pre HK1.out (Rx.trans ⟨Z1, HZ1.out, HK2.out, ⟨Z1, ⟨_, _, _, _, HD4.out⟩, fun _ _ h => h, HKF4.out.all⟩⟩)⟩
end Go.Proofs.Ytdlbccjimdghkaa
