/- The document's disk in memory: Rename, walked once. No condition but that it lies as RD says, and is good. -/
import Derived.Test.YtdlbccjimdghkaaHL
import Derived.Test.YtdlbccjimdghkaaEM
namespace Go.Proofs.Ytdlbccjimdghkaa
open Go.RowKit
set_option linter.unusedVariables false
set_option linter.unusedSimpArgs false
theorem set_same {α : Type} {l : List α} {j : Nat} {x : α} (h : l[j]? = some x) : l.set j x = l := by
  obtain ⟨hj, e⟩ := List.getElem?_eq_some_iff.1 h
  rw [← e]; exact List.set_getElem_self hj
def ren1 (a b : Nm) (x : Itm) : Itm := if x.1 = a then (b, x.2) else x
def renI (V : List Itm) (a b : Nm) (j : Nat) : List Itm := (V.take j).map (ren1 a b) ++ V.drop j
theorem renI_eq {V : List Itm} {j : Nat} {x : Itm} (a b : Nm) (hx : V[j]? = some x) : renI V a b j = (V.take j).map (ren1 a b) ++ x :: V.drop (j + 1) ∧ renI V a b (j + 1) = (V.take j).map (ren1 a b) ++ ren1 a b x :: V.drop (j + 1) := by
  have hj := (List.getElem?_eq_some_iff.1 hx).1
  refine ⟨?_, ?_⟩
  · rw [renI, List.drop_eq_getElem_cons hj, (List.getElem?_eq_some_iff.1 hx).2]
  · rw [renI, List.take_add_one, hx]; simp
theorem renI_at {V : List Itm} {j : Nat} {x : Itm} (a b : Nm) (hx : V[j]? = some x) : (renI V a b j)[j]? = some x := by
  have hj := (List.getElem?_eq_some_iff.1 hx).1
  rw [(renI_eq a b hx).1, List.getElem?_append_right (by simp; omega)]
  simp [Nat.min_eq_left (Nat.le_of_lt hj)]
theorem renI_set {V : List Itm} {j : Nat} {x : Itm} (a b : Nm) (hx : V[j]? = some x) : renI V a b (j + 1) = (renI V a b j).set j (ren1 a b x) := by
  have hj := (List.getElem?_eq_some_iff.1 hx).1
  rw [(renI_eq a b hx).1, (renI_eq a b hx).2, List.set_append_right _ _ (by simp; omega)]
  simp [Nat.min_eq_left (Nat.le_of_lt hj)]
theorem renI_len (V : List Itm) (a b : Nm) (j : Nat) : (renI V a b j).length = V.length := by
  rw [renI, List.length_append, List.length_map, List.length_take, List.length_drop]; omega
theorem renI_all (V : List Itm) (a b : Nm) {n : Nat} (hn : V.length = n) : renI V a b n = V.map (ren1 a b) := by
  subst hn; rw [renI, List.take_length, List.drop_length, List.append_nil]
theorem renI_nms (V : List Itm) (a b : Nm) : nms (V.map (ren1 a b)) = renB (nms V) a b := by
  rw [nms, nms, renB, List.map_map, List.map_map]
  apply List.map_congr_left
  intro x _
  simp only [Function.comp_def, ren1]
  split <;> rfl
theorem renI_mem {V : List Itm} {a b : Nm} {x : Itm} (h : x ∈ V.map (ren1 a b)) : ∃ y ∈ V, x.2 = y.2 := by
  obtain ⟨y, hy, rfl⟩ := List.mem_map.1 h
  refine ⟨y, hy, ?_⟩
  unfold ren1; split <;> rfl
theorem ncs_setN {V : List Itm} {k : Nat} {x : Itm} (h : V[k]? = some x) (n : Nm) : (ncs V).set (k * 2) (.string n) = ncs (V.set k (n, x.2)) := by
  induction V generalizing k with
  | nil => simp at h
  | cons q V ih =>
    cases k with
    | zero => simp at h; subst h; rfl
    | succ k =>
      have := ih (k := k) (by simpa using h)
      have l2 : (nc2 q).length = 2 := rfl
      rw [List.set_cons_succ, ncs_cons, ncs_cons, ← this, List.set_append_right _ _ (by rw [l2]; omega), l2, show (k + 1) * 2 - 2 = k * 2 from by omega]
def qren1 (R : DS) (a b : Nm) (s : By) : DS := if a = b then R else { R.gone b with F := insG (b, s) (adel (adel R.F b) a), B := renB (adel R.B b) a b }
def qrenD (D : DS) (a b : Nm) : DS := if D.off then D else if goodB b then (match aget D.F a with
  | none => D
  | some s => if D.fit then qren1 D.begun a b s else D.begun) else D
theorem Gd.gone_none {R : DS} (h : Gd R) {n : Nm} (hn : aget R.F n = none) : R.gone n = R := by
  have h1 := aget_none hn
  have h2 : n ∉ R.B.map (·.1) := fun hx => by
    obtain ⟨x, hy, e⟩ := List.mem_map.1 hx
    subst e
    exact h1 (h.nm _ hy)
  rw [DS.gone, adel_none h1, adel_none h2]
theorem Rx.mk2 {Z : Nat → Prop} {p : Nat} {R R' : DS} {lv bv lv' bv' : Value} {LV BV LV' BV' : List Itm} {w w' : World} (h : RD0 Z p R lv bv LV BV w) (hk : Kp (fun i => ¬ Z i) w w') (hc : w'.heap[p]? = some (.cells (rcs R' lv' bv') 77 (0, 0)))
    (hf : R'.F = nms LV') (hb : R'.B = nms BV') (hlr : w'.ownsRow 0 94 2 lv' LV'.length (ncs LV')) (hbr : w'.ownsRow 0 96 2 bv' BV'.length (ncs BV'))
    (hd : ∀ x, x ∈ LV' ∨ x ∈ BV' → w'.ownsRow 0 5 1 x.2.2 x.2.1.length (u8s x.2.1) ∧ ∀ b, x.2.2.ownBlock = some b → Z b ∨ w.heap.size ≤ b)
    (zl : ∀ b, lv'.ownBlock = some b → Z b ∨ w.heap.size ≤ b) (zb : ∀ b, bv'.ownBlock = some b → Z b ∨ w.heap.size ≤ b) :
    ∃ Z', RD Z' p R' w' ∧ (∀ b, b < w.heap.size → Z' b → Z b) ∧ (∀ b, Z b → Z' b) ∧ Kp (fun i => ¬ Z i) w w' := by
  have lt' : ∀ b, Z b → b < w'.heap.size := fun b hz => Nat.lt_of_lt_of_le (h.lt b hz) hk.size
  refine ⟨fun b => b < w'.heap.size ∧ (Z b ∨ w.heap.size ≤ b), ⟨lv', bv', LV', BV', hc, hf, hb, hlr, hbr, fun x hx => (hd x hx).1, ⟨lt' _ h.zp, .inl h.zp⟩, fun b hz => ⟨(hlr.lt b hz).2, zl b hz⟩, fun b hz => ⟨(hbr.lt b hz).2, zb b hz⟩, fun x hx b hz => ⟨((hd x hx).1.lt b hz).2, (hd x hx).2 b hz⟩, fun b hz => hz.1⟩, fun b hb hz => ?_, fun b hz => ⟨lt' b hz, .inl hz⟩, hk⟩
  rcases hz.2 with h | h
  · exact h
  · omega
theorem qcut_end {Z : Nat → Prop} {p : Nat} {R : DS} {lv bv : Value} {LV BV : List Itm} {w w6 : World} {A6 : Option Addr} {m e6 base k : Nat} {yn : Nm} {yb : By} {yv : Value} (h : RD0 Z p R lv bv LV BV w) (hk : Kp All w w6)
    (hrow : w6.ownsRow base 94 2 (.slice A6 m e6) m ((ncs LV).take (k * 2) ++ (ncs LV).drop ((k + 1) * 2))) (hb : w.heap.size ≤ base) (hy : LV[k]? = some (yn, yb, yv)) (hm : m = k + (LV.length - (k + 1))) (hnd : (R.F.map (·.1)).Nodup) :
    ∃ Z', RD Z' p { R with F := adel R.F yn } (w6.setCell ⟨p, 1, none⟩ (.slice A6 m e6)) ∧ (∀ b, b < w.heap.size → Z' b → Z b) ∧ (∀ b, Z b → Z' b) ∧ Kp (fun b => ¬ Z b) w (w6.setCell ⟨p, 1, none⟩ (.slice A6 m e6)) ∧ (w6.setCell ⟨p, 1, none⟩ (.slice A6 m e6)).ownsRow 0 5 1 yv yb.length (u8s yb) := by
  have kS : Kp (fun i => i ≠ p) w6 (w6.setCell ⟨p, 1, none⟩ (.slice A6 m e6)) := (Kp.refl _ _).setOut (fun h => h rfl) _
  have h6 := h.all hk
  have hpw : ∀ {e sz n : Nat} {u : Value} {xs : List Value}, w6.ownsRow 0 e sz u n xs → e ≠ 77 → ∀ i, u.ownBlock = some i → i ≠ p := fun hu he i hi => by
    obtain ⟨cur, hc⟩ := own_ty hu hi
    exact ty_ne hc h6.cell he
  have hkl := (List.getElem?_eq_some_iff.1 hy).1
  have hle : (LV.eraseIdx k).length = m := by rw [List.length_eraseIdx_of_lt hkl]; omega
  have hr0 := World.ownsRow.mono hrow (Nat.zero_le _)
  have hyd := h6.data _ (.inl (List.mem_of_getElem? hy))
  obtain ⟨Z', a1, a2, a3, a4⟩ := Rx.mk2 (R' := { R with F := adel R.F yn }) h (hk.all.then kS fun i hi hn e => hn (e ▸ h.zp)) (lv' := .slice A6 m e6) (bv' := bv) (LV' := LV.eraseIdx k) (BV' := BV) (by rw [blk_set h6.cell 1]; rfl) (by
      show adel R.F yn = nms (LV.eraseIdx k)
      rw [h.fe, adel_erase (j := k) (x := (yn, yb)) (by rw [← h.fe]; exact hnd) (by rw [nms_at, hy]; rfl), nms, nms, map_eraseIdx']) h.be (by
      rw [hle, show ncs (LV.eraseIdx k) = (ncs LV).take (k * 2) ++ (ncs LV).drop ((k + 1) * 2) from by rw [List.eraseIdx_eq_take_drop_succ, ncs_app, ncs_take, ncs_drop]]
      exact own_kept hr0 kS (hpw hr0 (by decide))) (own_kept h6.br kS (hpw h6.br (by decide))) (by
      intro x hx
      have hx' : x ∈ LV ∨ x ∈ BV := hx.imp_left (fun h => List.mem_of_mem_eraseIdx h)
      exact ⟨own_kept (h6.data x hx') kS (hpw (h6.data x hx') (by decide)), fun b hb => .inl (h.zd x hx' b hb)⟩) (fun b hz => .inr (Nat.le_trans hb (hrow.lt b hz).1)) (fun b hz => .inl (h.zb b hz))
  exact ⟨Z', a1, a2, a3, a4, own_kept hyd kS (hpw hyd (by decide))⟩
theorem qren_end {Z : Nat → Prop} {p : Nat} {R : DS} {lv bv nv : Value} {LV BV : List Itm} {w wr : World} {a b : Nm} {nb : Nat} (h : RD0 Z p R lv bv LV BV w) (hk : Kp All w wr) (hnb : BV.length = nb) (hrow : wr.ownsRow w.heap.size 96 2 nv nb (ncs (renI BV a b nb))) :
    Rx Z p { R with B := renB R.B a b } w (wr.setCell ⟨p, 2, none⟩ nv) := by
  have kS : Kp (fun i => i ≠ p) wr (wr.setCell ⟨p, 2, none⟩ nv) := (Kp.refl _ _).setOut (fun h => h rfl) _
  have h6 := h.all hk
  have hpw : ∀ {e sz n : Nat} {u : Value} {xs : List Value}, wr.ownsRow 0 e sz u n xs → e ≠ 77 → ∀ i, u.ownBlock = some i → i ≠ p := fun hu he i hi => by
    obtain ⟨cur, hc⟩ := own_ty hu hi
    exact ty_ne hc h6.cell he
  have hr0 := World.ownsRow.mono hrow (Nat.zero_le _)
  rw [renI_all _ _ _ hnb] at hr0
  refine Rx.mk' h (hk.all.then kS fun i hi hn e => hn (e ▸ h.zp)) (lv' := lv) (bv' := nv) (LV' := LV) (BV' := BV.map (ren1 a b)) (by rw [blk_set h6.cell 2]; rfl) h.fe (by
    show renB R.B a b = _
    rw [renI_nms, h.be]) (own_kept h6.fr kS (hpw h6.fr (by decide))) (by
    rw [List.length_map, hnb]
    exact own_kept hr0 kS (hpw hr0 (by decide))) (fun x hx => ?_) (fun i hi => .inl (h.zl i hi)) (fun i hi => .inr (hrow.lt i hi).1)
  rcases hx with hx | hx
  · exact ⟨own_kept (h6.data x (.inl hx)) kS (hpw (h6.data x (.inl hx)) (by decide)), fun i hi => .inl (h.zd x (.inl hx) i hi)⟩
  · obtain ⟨y, hy, e⟩ := renI_mem hx
    rw [e]
    exact ⟨own_kept (h6.data y (.inr hy)) kS (hpw (h6.data y (.inr hy)) (by decide)), fun i hi => .inl (h.zd y (.inr hy) i hi)⟩
set_option maxRecDepth 100000 in
set_option maxHeartbeats 4000000 in
theorem qren_any (Z : Nat → Prop) (p : Nat) (R : DS) (a b : Nm) (hsz : b.size ≤ 9223372036854775806) (w : World) (h : RD Z p R w) (hg : GO R) :
    Calls Try.prog 53 #[.pointer (some ⟨p, 0, none⟩), .string a, .string b] w fun e w' => e = .returned (.int .i64 (renErr R a b)) ∧ Rx Z p (qrenD R a b) w w' := by
  have H := hid h; have HG := hid hg
  obtain ⟨lv, bv, LV, BV, h0⟩ := h
  have c0 := blk_cell h0.cell
  unfold rcs at c0
  obtain ⟨fo, hfo⟩ : ∃ fo, R.off = fo := ⟨_, rfl⟩
  have HFO := hid hfo
  rw [hfo] at c0
  clear hg h0 hfo
  cases fo with
  | true =>
    have HE := hid (show renErr R a b = 9 ∧ qrenD R a b = R by rw [renErr, qrenD, HFO.out]; exact ⟨rfl, rfl⟩)
    go_enter Try.func53, Try.ntmps53
    go_wp2_with fail
    go_ret
    rw [HE.out.1, HE.out.2]
    exact ⟨rfl, Rx.refl H.out (Kp.refl _ _)⟩
  | false =>
    obtain ⟨fg, hfg⟩ : ∃ fg, goodB b = fg := ⟨_, rfl⟩
    have HFG := hid hfg
    clear hfg
    cases fg with
    | false =>
      have HE := hid (show renErr R a b = 3 ∧ qrenD R a b = R by rw [renErr, qrenD, HFO.out, HFG.out]; exact ⟨rfl, rfl⟩)
      go_enter Try.func53, Try.ntmps53
      go_wp2_with fail
      refine (rgood_any b hsz _).mono ?_
      rintro e w1 ⟨rfl, rfl⟩
      rw [HFG.out]
      go_wp2_with fail
      go_ret
      rw [HE.out.1, HE.out.2]
      exact ⟨rfl, Rx.refl H.out (Kp.refl _ _)⟩
    | true =>
      obtain ⟨og, hog⟩ : ∃ og, aget R.F a = og := ⟨_, rfl⟩
      have HOG := hid hog
      clear hog
      cases og with
      | none =>
        have HKF := hid (findN_none' HOG.out)
        have d1 : decide ((-1 : Int) < 0) = true := by decide
        have HE := hid (show renErr R a b = 4 ∧ qrenD R a b = R by rw [renErr, qrenD, HFO.out, HFG.out, HOG.out]; exact ⟨rfl, rfl⟩)
        go_enter Try.func53, Try.ntmps53
        go_wp2_with fail
        refine (rgood_any b hsz _).mono ?_
        rintro e w1 ⟨rfl, rfl⟩
        rw [HFG.out]
        go_wp2_with fail
        refine (qfind_any Z p R a _ H.out HG.out.f).mono ?_
        rintro e w1 ⟨rfl, hk1⟩
        rw [HKF.out]
        have HK1 := hid hk1
        clear hk1
        go_wp2_with fail
        go_ret
        rw [HE.out.1, HE.out.2]
        exact ⟨rfl, Rx.refl H.out HK1.out⟩
      | some s =>
        obtain ⟨k, hk1, hk2⟩ := findN_some HG.out.nd HOG.out
        have HKF := hid hk1; have HKA := hid hk2
        have d1 : decide ((k : Int) < 0) = false := decide_eq_false (by omega)
        clear hk1 hk2
        obtain ⟨ff, hff⟩ : ∃ ff, R.fit = ff := ⟨_, rfl⟩
        have HFF := hid hff
        clear hff
        cases ff with
        | false =>
          have HE := hid (show renErr R a b = 9 ∧ qrenD R a b = R.begun by rw [renErr, qrenD, HFO.out, HFG.out, HOG.out, HFF.out]; exact ⟨rfl, rfl⟩)
          go_enter Try.func53, Try.ntmps53
          go_wp2_with fail
          refine (rgood_any b hsz _).mono ?_
          rintro e w1 ⟨rfl, rfl⟩
          rw [HFG.out]
          go_wp2_with fail
          refine (qfind_any Z p R a _ H.out HG.out.f).mono ?_
          rintro e w1 ⟨rfl, hk1⟩
          rw [HKF.out]
          have HK1 := hid hk1
          clear hk1
          go_wp2_with fail
          refine (qbegin_any Z p R HG.out.o0 HG.out.o1 HG.out.f1 HG.out.k1 _ (H.out.all HK1.out) HG.out.toGd).mono ?_
          rintro e w2 ⟨rfl, hx⟩
          rw [HFF.out]
          have HX := hid hx
          clear hx c0
          go_wp2_with fail
          go_ret
          rw [HE.out.1, HE.out.2]
          exact ⟨rfl, Rx.pre HK1.out HX.out⟩
        | true =>
          obtain ⟨eF, eB, ebl, eo⟩ := begun_fit HFF.out
          have HGB := hid (HG.out.toGd.same eF eB)
          obtain ⟨R1, hR1⟩ : ∃ R1, R.begun = R1 := ⟨_, rfl⟩
          have HE := hid (show renErr R a b = 0 ∧ qrenD R a b = qren1 R1 a b s by rw [renErr, qrenD, HFO.out, HFG.out, HOG.out, HFF.out, hR1]; exact ⟨rfl, rfl⟩)
          rw [hR1] at HGB eF
          have HEF := hid eF
          have HR1 := hid hR1
          clear hR1 eF eB ebl eo
          by_cases hab : a = b
          · have hd1 : (a.toList == b.toList) = true := by rw [hab]; simp
            have HAB := hid hab
            clear hab
            go_enter Try.func53, Try.ntmps53
            go_wp2_with fail
            refine (rgood_any b hsz _).mono ?_
            rintro e w1 ⟨rfl, rfl⟩
            rw [HFG.out]
            go_wp2_with fail
            refine (qfind_any Z p R a _ H.out HG.out.f).mono ?_
            rintro e w1 ⟨rfl, hk1⟩
            rw [HKF.out]
            have HK1 := hid hk1
            clear hk1
            go_wp2_with fail
            refine (qbegin_any Z p R HG.out.o0 HG.out.o1 HG.out.f1 HG.out.k1 _ (H.out.all HK1.out) HG.out.toGd).mono ?_
            rintro e w2 ⟨rfl, hx⟩
            rw [HFF.out]
            rw [HR1.out] at hx
            have HX := hid hx
            clear hx c0
            go_wp2_with fail
            go_ret
            rw [HE.out.1, HE.out.2, qren1, if_pos HAB.out]
            exact ⟨rfl, Rx.pre HK1.out HX.out⟩
          · have hd0 := nm_ne hab
            have hd1 : (a.toList == b.toList) = false := by simp [hd0]
            obtain ⟨ob, hob⟩ : ∃ ob, aget R1.F b = ob := ⟨_, rfl⟩
            have HOB := hid hob
            have HAB := hid hab
            have HQR := hid (show qrenD R a b = { R1.gone b with F := insG (b, s) (adel (R1.gone b).F a), B := renB (R1.gone b).B a b } by rw [HE.out.2, qren1, if_neg hab]; rfl)
            have HE1 := hid HE.out.1
            rw [HE1.out, HQR.out]
            clear hab HE
            have hbc : ob = none ∨ ∃ t, ob = some t := by cases ob <;> simp
            clear hob
            refine or2 hbc ?kA ?kB
            case' kA =>
              rintro rfl
              have HKB := hid (findN_none' HOB.out)
              have d2 : decide ((-1 : Int) ≥ 0) = false := by decide
              go_enter Try.func53, Try.ntmps53
              go_wp2_with fail
              refine (rgood_any b hsz _).mono ?_
              rintro e w1 ⟨rfl, rfl⟩
              rw [HFG.out]
              go_wp2_with fail
              refine (qfind_any Z p R a _ H.out HG.out.f).mono ?_
              rintro e w1 ⟨rfl, hk1⟩
              rw [HKF.out]
              have HK1 := hid hk1
              clear hk1
              go_wp2_with fail
              refine (qbegin_any Z p R HG.out.o0 HG.out.o1 HG.out.f1 HG.out.k1 _ (H.out.all HK1.out) HG.out.toGd).mono ?_
              rintro e w2 ⟨rfl, Z1, hd1', hz1, hk1⟩
              rw [HFF.out]
              rw [HR1.out] at hd1'
              have HD1 := hid hd1'; have HZ1 := hid hz1; have HK2 := hid hk1
              clear hd1' hz1 hk1 c0
              go_wp2_with fail
              refine (qfind_any Z1 p R1 b _ HD1.out HGB.out.f).mono ?_
              rintro e w3 ⟨rfl, hk3⟩
              rw [HKB.out]
              have HR3 := hid (show Rx Z p (R1.gone b) w w3 by rw [HGB.out.gone_none HOB.out]; exact Rx.pre HK1.out (Rx.trans ⟨Z1, HZ1.out, HK2.out, Rx.refl HD1.out hk3⟩))
              clear hk3
              go_wp2_with fail
            case' kB =>
              rintro ⟨t, rfl⟩
              obtain ⟨kb, hk1, hk2⟩ := findN_some HGB.out.nd HOB.out
              have HKB := hid hk1; have HKC := hid hk2
              have d2 : decide ((kb : Int) ≥ 0) = true := decide_eq_true (by omega)
              clear hk1 hk2
              go_enter Try.func53, Try.ntmps53
              go_wp2_with fail
              refine (rgood_any b hsz _).mono ?_
              rintro e w1 ⟨rfl, rfl⟩
              rw [HFG.out]
              go_wp2_with fail
              refine (qfind_any Z p R a _ H.out HG.out.f).mono ?_
              rintro e w1 ⟨rfl, hk1⟩
              rw [HKF.out]
              have HK1 := hid hk1
              clear hk1
              go_wp2_with fail
              refine (qbegin_any Z p R HG.out.o0 HG.out.o1 HG.out.f1 HG.out.k1 _ (H.out.all HK1.out) HG.out.toGd).mono ?_
              rintro e w2 ⟨rfl, Z1, hd1', hz1, hk1⟩
              rw [HFF.out]
              rw [HR1.out] at hd1'
              have HD1 := hid hd1'; have HZ1 := hid hz1; have HK2 := hid hk1
              clear hd1' hz1 hk1 c0
              go_wp2_with fail
              refine (qfind_any Z1 p R1 b _ HD1.out HGB.out.f).mono ?_
              rintro e w2' ⟨rfl, hk3⟩
              rw [HKB.out]
              have HK3 := hid hk3
              clear hk3
              go_wp2_with fail
              refine (qgone_any Z1 p R1 kb b t _ (HD1.out.all HK3.out) HGB.out HKC.out).mono ?_
              rintro e w3 ⟨rfl, hx3⟩
              have HR3 := hid (show Rx Z p (R1.gone b) w w3 from Rx.pre HK1.out (Rx.trans ⟨Z1, HZ1.out, HK2.out, Rx.pre HK3.out hx3⟩))
              clear hx3
              go_wp2_with fail
            all_goals (
              obtain ⟨R2, hR2⟩ : ∃ R2, R1.gone b = R2 := ⟨_, rfl⟩
              have HG2 := hid (show Gd R2 by rw [← hR2]; exact HGB.out.gone b)
              have ha2 : aget R2.F a = some s := by
                rw [← hR2]
                show aget (adel R1.F b) a = some s
                rw [aget_adel_other _ _ _ HAB.out, HEF.out]; exact HOG.out
              rw [hR2] at HR3
              have HR2 := hid hR2
              obtain ⟨k2, hk1, hk2⟩ := findN_some HG2.out.nd ha2
              have HKF2 := hid hk1; have HKA2 := hid hk2
              obtain ⟨Z3, hd3, hz3, hk3⟩ := HR3.out
              have HD3 := hid hd3; have HZ3 := hid hz3; have HK3 := hid hk3
              clear hk1 hk2 hd3 hz3 hk3 hR2 ha2
              refine (qfind_any Z3 p R2 a _ HD3.out HG2.out.f).mono ?_
              rintro e w4 ⟨rfl, hk4⟩
              rw [HKF2.out]
              obtain ⟨lv4, bv4, LV, BV, hd4⟩ := HD3.out.all hk4
              have HK4 := hid hk4
              obtain ⟨LA, lc, rfl⟩ := own_shape hd4.fr
              obtain ⟨BA, bc, rfl⟩ := own_shape hd4.br
              have HD4 := hid hd4
              obtain ⟨y, hy⟩ : ∃ y, LV[k2]? = some y := by
                have h1 := HKA2.out
                rw [hd4.fe, nms_at] at h1
                cases hh : LV[k2]? with
                | none => rw [hh] at h1; cases h1
                | some x => exact ⟨x, rfl⟩
              have hye : y.1 = a ∧ y.2.1 = s := by
                have h1 := HKA2.out
                rw [hd4.fe, nms_at, hy] at h1
                injection h1 with h1; injection h1 with h1 h2
                exact ⟨h1, h2⟩
              have hll : LV.length ≤ 1000000 := by have := HG2.out.f; rw [hd4.fe, nms, List.length_map] at this; exact this
              have hbl : BV.length ≤ 1000000 := by have := HG2.out.b; rw [hd4.be, nms, List.length_map] at this; exact this
              have HLL := hid hll; have HBL := hid hbl
              obtain ⟨fb, eLA, q0, q1, hlb⟩ := own_item hd4.fr rfl hy
              subst eLA
              have hsc : LV.length ≤ lc := by
                rcases hd4.fr.2 with ⟨e, _⟩ | ⟨g, cap, cur, e, _, _, hn, _⟩
                · cases e
                · injection e with _ _ e; omega
              have hyv := hd4.data _ (.inl (List.mem_of_getElem? hy))
              obtain ⟨yn, yb, yv⟩ := y
              obtain ⟨YA, yc, hyv', _⟩ := own_sl8 hyv
              dsimp only at hye q0 q1 hyv'
              obtain ⟨rfl, rfl⟩ := hye
              subst hyv'
              obtain ⟨yl, hyl⟩ : ∃ yl, yb.length = yl := ⟨_, rfl⟩
              have HYL := hid hyl
              rw [hyl] at q1
              have HF := hid (own_foot hd4.fr)
              have hk : k2 < LV.length := (List.getElem?_eq_some_iff.1 hy).1
              have HY := hid hy
              have c4 := blk_cell hd4.cell
              unfold rcs at c4
              have hs2 : p < w4.heap.size := blk_lt hd4.cell
              have i0 : (0 : Int) ≤ (k2 : Int) := by omega
              have i1 : (k2 : Int) < (LV.length : Int) := by omega
              have i2 : (k2 : Int) + 1 ≤ (LV.length : Int) := by omega
              have i3 : (0 : Int) ≤ (k2 : Int) + 1 := by omega
              have i4 : (k2 : Int) ≤ (lc : Int) := by omega
              have i5 : (LV.length : Int) ≤ (lc : Int) := by omega
              have hwr : IntKind.i64.wrap ((k2 : Int) + 1) = (k2 : Int) + 1 := IntWalk.i64_in _ (by omega)
              clear hk4 hd4 hy hyv hyl
              go_wp2_with fail)
            all_goals (
              have k5 := Kp.al w4 (.cells #[.string yn, .slice YA yl yc] 94)
              have b5 := blk_new w4 (.cells #[.string yn, .slice YA yl yc] 94)
              obtain ⟨W, hW⟩ : ∃ W, W = w4.alloc (.cells #[.string yn, .slice YA yl yc] 94) := ⟨_, rfl⟩
              rw [← hW] at k5 b5 ⊢
              have hbx : w4.heap.size < W.heap.size := blk_lt b5
              obtain ⟨bx, hbxe⟩ : ∃ bx, w4.heap.size = bx := ⟨_, rfl⟩
              rw [hbxe] at b5 hbx ⊢
              have HBX := hid hbxe
              have K5 := hid k5; have B5 := hid b5
              have c5 := blk_cell (k5.heap HD4.out.cell trivial)
              unfold rcs at c5
              clear k5 b5 hW hbxe c4
              refine RegionLast.wp_region_end_held (S := fun w' => ∀ i, w'.cell? ⟨p, i, none⟩ = (#[.int .i64 R2.blocks, .slice (some ⟨fb, 0, none⟩) LV.length lc, .slice BA BV.length bc, .bool R2.off, .int .i64 R2.ops, .int .i64 R2.fails, .int .i64 R2.keep] : Array Value)[i]?) (by kernel_rfl) (by kernel_rfl) (fun i => c5 i) (fun hHeld => ?_)
              simp only [List.length_cons, List.length_nil, Nat.zero_add, Nat.reduceAdd, Nat.reduceSub, List.take_succ_cons, List.take_zero, List.drop_succ_cons, List.drop_zero]
              (refine wpAnyH_take (i := 0) (oi := _) (v := ?_) (by (simp only [List.getElem?_toArray, List.getElem?_cons_succ, List.getElem?_cons_zero]); rfl) (by kernel_rfl) (by kernel_rfl) (by kernel_rfl) (by exact fun _ _ _ h => h) (Or.inl ⟨by rfl, ?_⟩) (by assumption) ?_; rotate_left; focus ((intro w hSw; (try dsimp only at hSw); go_simp) <;> with_reducible rfl); (try simp only [Act.put, List.getElem_toArray, List.getElem_cons_succ, List.getElem_cons_zero, List.setIfInBounds_toArray, List.set_cons_zero, List.set_cons_succ]))
              (refine wpAnyH_take (i := 2) (oi := _) (v := ?_) (by (simp only [List.getElem?_toArray, List.getElem?_cons_succ, List.getElem?_cons_zero]); rfl) (by kernel_rfl) (by kernel_rfl) (by kernel_rfl) (by exact fun _ _ _ h => h) (Or.inl ⟨by rfl, ?_⟩) (by assumption) ?_; rotate_left; focus ((intro w hSw; (try dsimp only at hSw); go_simp) <;> with_reducible rfl); (try simp only [Act.put, List.getElem_toArray, List.getElem_cons_succ, List.getElem_cons_zero, List.setIfInBounds_toArray, List.set_cons_zero, List.set_cons_succ]))
              (refine wpAnyH_take (i := 3) (oi := _) (v := ?_) (by (simp only [List.getElem?_toArray, List.getElem?_cons_succ, List.getElem?_cons_zero]); rfl) (by kernel_rfl) (by kernel_rfl) (by kernel_rfl) (by exact fun _ _ _ h => h) (Or.inl ⟨by rfl, ?_⟩) (by assumption) ?_; rotate_left; focus ((intro w hSw; (try dsimp only at hSw); go_simp) <;> with_reducible rfl); (try simp only [Act.put, List.getElem_toArray, List.getElem_cons_succ, List.getElem_cons_zero, List.setIfInBounds_toArray, List.set_cons_zero, List.set_cons_succ]))
              (refine wpAnyH_take (i := 4) (oi := _) (v := ?_) (by (simp only [List.getElem?_toArray, List.getElem?_cons_succ, List.getElem?_cons_zero]); rfl) (by kernel_rfl) (by kernel_rfl) (by kernel_rfl) (by exact fun _ _ _ h => h) (Or.inl ⟨by rfl, ?_⟩) (by assumption) ?_; rotate_left; focus ((intro w hSw; (try dsimp only at hSw); go_simp) <;> with_reducible rfl); (try simp only [Act.put, List.getElem_toArray, List.getElem_cons_succ, List.getElem_cons_zero, List.setIfInBounds_toArray, List.set_cons_zero, List.set_cons_succ]))
              (refine wpAnyH_take (i := 5) (oi := _) (v := ?_) (by (simp only [List.getElem?_toArray, List.getElem?_cons_succ, List.getElem?_cons_zero]); rfl) (by kernel_rfl) (by kernel_rfl) (by kernel_rfl) (by exact fun _ _ _ h => h) (Or.inl ⟨by rfl, ?_⟩) (by assumption) ?_; rotate_left; focus ((intro w hSw; (try dsimp only at hSw); go_simp) <;> with_reducible rfl); (try simp only [Act.put, List.getElem_toArray, List.getElem_cons_succ, List.getElem_cons_zero, List.setIfInBounds_toArray, List.set_cons_zero, List.set_cons_succ]))
              (refine wpAnyH_take (i := 6) (oi := _) (v := ?_) (by (simp only [List.getElem?_toArray, List.getElem?_cons_succ, List.getElem?_cons_zero]); rfl) (by kernel_rfl) (by kernel_rfl) (by kernel_rfl) (by exact fun _ _ _ h => h) (Or.inl ⟨by rfl, ?_⟩) (by assumption) ?_; rotate_left; focus ((intro w hSw; (try dsimp only at hSw); go_simp) <;> with_reducible rfl); (try simp only [Act.put, List.getElem_toArray, List.getElem_cons_succ, List.getElem_cons_zero, List.setIfInBounds_toArray, List.set_cons_zero, List.set_cons_succ]))
              (refine wpAnyH_take (i := 7) (oi := _) (v := ?_) (by (simp only [List.getElem?_toArray, List.getElem?_cons_succ, List.getElem?_cons_zero]); rfl) (by kernel_rfl) (by kernel_rfl) (by kernel_rfl) (by exact fun _ _ _ h => h) (Or.inl ⟨by rfl, ?_⟩) (by assumption) ?_; rotate_left; focus ((intro w hSw; (try dsimp only at hSw); go_simp) <;> with_reducible rfl); (try simp only [Act.put, List.getElem_toArray, List.getElem_cons_succ, List.getElem_cons_zero, List.setIfInBounds_toArray, List.set_cons_zero, List.set_cons_succ]))
              (refine wpAnyH_take (i := 9) (oi := _) (v := ?_) (by (simp only [List.getElem?_toArray, List.getElem?_cons_succ, List.getElem?_cons_zero]); rfl) (by kernel_rfl) (by kernel_rfl) (by kernel_rfl) (by exact fun _ _ _ h => h) (Or.inl ⟨by rfl, ?_⟩) (by assumption) ?_; rotate_left; focus ((intro w hSw; (try dsimp only at hSw); go_simp) <;> with_reducible rfl); (try simp only [Act.put, List.getElem_toArray, List.getElem_cons_succ, List.getElem_cons_zero, List.setIfInBounds_toArray, List.set_cons_zero, List.set_cons_succ]))
              (refine wpAnyH_take (i := 10) (oi := _) (v := ?_) (by (simp only [List.getElem?_toArray, List.getElem?_cons_succ, List.getElem?_cons_zero]); rfl) (by kernel_rfl) (by kernel_rfl) (by kernel_rfl) (by exact fun _ _ _ h => h) (Or.inl ⟨by rfl, ?_⟩) (by assumption) ?_; rotate_left; focus ((intro w hSw; (try dsimp only at hSw); go_simp) <;> with_reducible rfl); (try simp only [Act.put, List.getElem_toArray, List.getElem_cons_succ, List.getElem_cons_zero, List.setIfInBounds_toArray, List.set_cons_zero, List.set_cons_succ]))
              (refine wpAnyH_take (i := 11) (oi := _) (v := ?_) (by (simp only [List.getElem?_toArray, List.getElem?_cons_succ, List.getElem?_cons_zero]); rfl) (by kernel_rfl) (by kernel_rfl) (by kernel_rfl) (by exact fun _ _ _ h => h) (Or.inl ⟨by rfl, ?_⟩) (by assumption) ?_; rotate_left; focus ((intro w hSw; (try dsimp only at hSw); go_simp) <;> with_reducible rfl); (try simp only [Act.put, List.getElem_toArray, List.getElem_cons_succ, List.getElem_cons_zero, List.setIfInBounds_toArray, List.set_cons_zero, List.set_cons_succ]))
              (refine wpAnyH_take (i := 12) (oi := _) (v := ?_) (by (simp only [List.getElem?_toArray, List.getElem?_cons_succ, List.getElem?_cons_zero]); rfl) (by kernel_rfl) (by kernel_rfl) (by kernel_rfl) (by exact fun _ _ _ h => h) (Or.inl ⟨by rfl, ?_⟩) (by assumption) ?_; rotate_left; focus ((intro w hSw; (try dsimp only at hSw); go_simp) <;> with_reducible rfl); (try simp only [Act.put, List.getElem_toArray, List.getElem_cons_succ, List.getElem_cons_zero, List.setIfInBounds_toArray, List.set_cons_zero, List.set_cons_succ]))
              (refine wpAnyH_take (i := 13) (oi := _) (v := ?_) (by (simp only [List.getElem?_toArray, List.getElem?_cons_succ, List.getElem?_cons_zero]); rfl) (by kernel_rfl) (by kernel_rfl) (by kernel_rfl) (by exact fun _ _ _ h => h) (Or.inl ⟨by rfl, ?_⟩) (by assumption) ?_; rotate_left; focus ((intro w hSw; (try dsimp only at hSw); go_simp) <;> with_reducible rfl); (try simp only [Act.put, List.getElem_toArray, List.getElem_cons_succ, List.getElem_cons_zero, List.setIfInBounds_toArray, List.set_cons_zero, List.set_cons_succ]))
              (refine wpAnyH_take (i := 14) (oi := _) (v := ?_) (by (simp only [List.getElem?_toArray, List.getElem?_cons_succ, List.getElem?_cons_zero]); rfl) (by kernel_rfl) (by kernel_rfl) (by kernel_rfl) (by exact fun _ _ _ h => h) (Or.inl ⟨by rfl, ?_⟩) (by assumption) ?_; rotate_left; focus ((intro w hSw; (try dsimp only at hSw); go_simp) <;> with_reducible rfl); (try simp only [Act.put, List.getElem_toArray, List.getElem_cons_succ, List.getElem_cons_zero, List.setIfInBounds_toArray, List.set_cons_zero, List.set_cons_succ]))
              (refine wpAnyH_take (i := 15) (oi := _) (v := ?_) (by (simp only [List.getElem?_toArray, List.getElem?_cons_succ, List.getElem?_cons_zero]); rfl) (by kernel_rfl) (by kernel_rfl) (by kernel_rfl) (by exact fun _ _ _ h => h) (Or.inl ⟨by rfl, ?_⟩) (by assumption) ?_; rotate_left; focus ((intro w hSw; (try dsimp only at hSw); go_simp) <;> with_reducible rfl); (try simp only [Act.put, List.getElem_toArray, List.getElem_cons_succ, List.getElem_cons_zero, List.setIfInBounds_toArray, List.set_cons_zero, List.set_cons_succ]))
              (try simp only [Act.put, List.setIfInBounds_toArray, List.set_cons_zero, List.set_cons_succ])
              refine wpAnyH_ready (rs := [1]) (by kernel_rfl) (by simp) ?_
              refine AllReadyH.cons rfl ?_ AllReadyH.nil
              intro KQ hKQ
              refine step_plain rfl ?_
              go_simp
              have ca2 : ∀ i, ((W.alloc (.cells #[] 94)).drew).cell? ⟨p, i, none⟩ = (#[.int .i64 R2.blocks, .slice (some ⟨fb, 0, none⟩) LV.length lc, .slice BA BV.length bc, .bool R2.off, .int .i64 R2.ops, .int .i64 R2.fails, .int .i64 R2.keep] : Array Value)[i]? := fun i => blk_cell (blk_alloc (K5.out.heap HD4.out.cell trivial) _) i
              refine hKQ.out _ _ ca2 (fun hHeld2 => ?_)
              clear hKQ KQ ca2
              (try simp only [Act.put, List.setIfInBounds_toArray, List.set_cons_zero, List.set_cons_succ])
              refine wpAnyH_ready (rs := [8]) (by kernel_rfl) (by simp) ?_
              refine AllReadyH.cons rfl ?_ AllReadyH.nil
              intro KQ hKQ
              refine step_plain rfl (wp_app elF (World.ownsRow.drew (own_build0 (w := W) (e := 94) (sz := 2) (base := W.heap.size) (Nat.le_refl _))) (A := some ⟨fb, 0, none⟩) (m := k2) (c := lc) (news := (ncs LV).take (k2 * 2)) ?_ ?_ ?_ ?_ _ _ rfl rfl rfl ?_)
              (exact sl_head (HF.out _ (K5.out.then (Kp.al W _).drew (fun _ _ _ => trivial))) (by omega))
              (exact fun u hu => HD4.out.one.1 u (List.mem_of_mem_take hu))
              (have := HLL.out; omega)
              (exact ((Kp.refl All W).alloc _).size)
              intro v1 w5 hown5 hg5 hob5 hnil5
              rw [Nat.zero_add, List.nil_append] at hown5
              obtain ⟨A5, e5, rfl⟩ := own_shape hown5
              have k6 : Kp All W w5 := ((Kp.refl All W).alloc (.cells #[] 94)).drew.then (Kp.grown hg5) (fun i hi _ e => by simp [Value.ownBlock] at e; omega)
              have ca5 := blk_cell (k6.heap (K5.out.heap HD4.out.cell trivial) trivial)
              unfold rcs at ca5
              have K6 := hid k6; have OW5 := hid hown5
              clear hown5 hg5 hob5 hnil5 k6
              refine hKQ.out _ _ (fun i => ca5 i) (fun hHeld3 => ?_)
              clear hKQ KQ ca5
              (try simp only [Act.put, List.setIfInBounds_toArray, List.set_cons_zero, List.set_cons_succ])
              refine wpAnyH_ready (rs := [16]) (by kernel_rfl) (by simp) ?_
              refine AllReadyH.cons rfl ?_ AllReadyH.nil
              intro KQ hKQ
              refine step_plain rfl (wp_app elF OW5.out (A := if lc = k2 + 1 then some ⟨fb, 0, none⟩ else some ⟨fb, (k2 + 1) * 2, none⟩) (m := LV.length - (k2 + 1)) (c := lc - (k2 + 1)) (news := (ncs LV).drop ((k2 + 1) * 2)) ?_ ?_ ?_ ?_ _ _ rfl rfl rfl ?_)
              (exact sl_tail (HF.out _ (K5.out.then K6.out (fun _ _ _ => trivial))) (by omega))
              (exact fun u hu => HD4.out.one.1 u (List.mem_of_mem_drop hu))
              (have := HLL.out; omega)
              (exact K6.out.size)
              intro v2 w6 hown6 hg6 hob6 hnil6
              obtain ⟨A6, e6, rfl⟩ := own_shape hown6
              have k7 : Kp All W w6 := K6.out.then (Kp.grown hg6) (fun i hi _ e => by have := (OW5.out.lt i e.symm).1; omega)
              have b7 := k7.heap (K5.out.heap HD4.out.cell trivial) trivial
              have ca6 := blk_cell b7
              unfold rcs at ca6
              have f6 := blk_free b7
              have bx6 := k7.heap B5.out trivial
              have B7 := hid b7; have K7 := hid k7; have OW6 := hid hown6; have BX6 := hid bx6
              clear hown6 hg6 hob6 hnil6 k7 b7 bx6
              refine hKQ.out _ _ (fun i => ca6 i) (fun hHeld4 => ?_)
              clear hKQ KQ
              (refine wpAnyH_take (i := 17) (oi := _) (v := ?_) (by (simp only [List.getElem?_toArray, List.getElem?_cons_succ, List.getElem?_cons_zero]); rfl) (by kernel_rfl) (by kernel_rfl) (by kernel_rfl) (by exact fun _ _ _ h => h) (Or.inl ⟨by rfl, ?_⟩) (by assumption) ?_; rotate_left; focus ((intro w hSw; (try dsimp only at hSw); go_simp) <;> with_reducible rfl); (try simp only [Act.put, List.getElem_toArray, List.getElem_cons_succ, List.getElem_cons_zero, List.setIfInBounds_toArray, List.set_cons_zero, List.set_cons_succ]))
              (refine wpAnyH_take (i := 18) (oi := _) (v := ?_) (by (simp only [List.getElem?_toArray, List.getElem?_cons_succ, List.getElem?_cons_zero]); rfl) (by kernel_rfl) (by kernel_rfl) (by kernel_rfl) (by exact fun _ _ _ h => h) (Or.inl ⟨by rfl, ?_⟩) (by assumption) ?_; rotate_left; focus ((intro w hSw; (try dsimp only at hSw); go_simp) <;> with_reducible rfl); (try simp only [Act.put, List.getElem_toArray, List.getElem_cons_succ, List.getElem_cons_zero, List.setIfInBounds_toArray, List.set_cons_zero, List.set_cons_succ]))
              (try simp only [Act.put, List.setIfInBounds_toArray, List.set_cons_zero, List.set_cons_succ])
              refine wpAnyH_done (by kernel_rfl) ?_ _
              unfold RegionLast.LastQ
              dsimp only)
            all_goals (
              obtain ⟨Z7, hd7, hz7, hzz7, hk7, hyd7⟩ := qcut_end (HD4.out.all K5.out) K7.out OW6.out (Nat.le_refl _) HY.out rfl HG2.out.nd
              have kSx : Kp (fun i => i ≠ p) w6 (w6.setCell ⟨p, 1, none⟩ (.slice A6 (k2 + (LV.length - (k2 + 1))) e6)) := (Kp.refl _ _).setOut (fun h => h rfl) _
              have hpx : bx ≠ p := fun e => by have := HD4.out.lt p HD4.out.zp; have := HBX.out; omega
              have bx7 := kSx.heap BX6.out hpx
              have hzb7 : ¬ Z7 bx := fun hz => by
                have h1 := hz7 bx hbx hz
                have h2 := HD4.out.lt bx h1
                have := HBX.out; omega
              have hsz7 : W.heap.size ≤ (w6.setCell ⟨p, 1, none⟩ (.slice A6 (k2 + (LV.length - (k2 + 1))) e6)).heap.size := hk7.size
              have HD7 := hid hd7; have HZ7 := hid hz7; have HZZ := hid hzz7; have HK7 := hid hk7; have HYD := hid hyd7; have HBX7 := hid bx7; have HZB := hid hzb7
              have hdc7 := hd7
              obtain ⟨lv7, bv7, LV7, BV7, hdc⟩ := hdc7
              have c7 := blk_cell bx7
              have f7 := blk_free bx7
              clear hd7 hz7 hzz7 hk7 hyd7 bx7 hzb7 kSx hpx hdc
              go_wp2_with fail)
            all_goals (
              obtain ⟨W7, hW7⟩ : ∃ W7, W7 = w6.setCell ⟨p, 1, none⟩ (.slice A6 (k2 + (LV.length - (k2 + 1))) e6) := ⟨_, rfl⟩
              rw [← hW7] at HD7 HK7 HYD HBX7 hsz7 ⊢
              have kX : Kp (fun i => i ≠ bx) W7 (W7.setCell ⟨bx, 0, none⟩ (.string b)) := (Kp.refl _ _).setOut (fun h => h rfl) _
              have hyz : ∀ i, (Value.slice YA yl yc).ownBlock = some i → Z7 i := fun i hi => HZZ.out i (HD4.out.zd _ (.inl (List.mem_of_getElem? HY.out)) i (by rw [← HYL.out] at hi; exact hi))
              have HKX := hid kX
              have hR7 : Gd { R2 with F := adel R2.F yn, B := adel R2.B yn } := HG2.out.gone yn
              have hyr : W7.ownsRow 0 5 1 (.slice YA yl yc) yl (u8s yb) := by have h := HYD.out; rw [HYL.out] at h; exact h
              refine (qput_any Z7 p { R2 with F := adel R2.F yn } b yb YA yl yc HYL.out _ (HD7.out.kept kX (fun z hz e => HZB.out (e ▸ hz))) hR7.f (own_kept hyr kX (fun i hi e => HZB.out (e ▸ hyz i hi))) hyz).mono ?_
              rintro e w8 ⟨rfl, Z9, ⟨lv9, bv9, LV9, BV9, hd9⟩, hz9, hk9⟩
              obtain ⟨LA9, lc9, rfl⟩ := own_shape hd9.fr
              obtain ⟨BA9, bc9, rfl⟩ := own_shape hd9.br
              have HD9 := hid hd9
              have HZ9 := hid (show ∀ i, i < w4.heap.size → Z9 i → Z3 i from fun i hi hz => HZ7.out i (by have := HBX.out; omega) (hz9 i (by have := kX.size; have := HBX.out; omega) hz))
              have HK9 := hid (show Kp (fun i => ¬ Z3 i) w4 w8 from ((K5.out.all.trans HK7.out).then kX (fun i hi _ e => by have := HBX.out; omega)).then hk9 (fun i hi hn hz => hn (HZ7.out i (by have := HBX.out; omega) hz)))
              have c9 := blk_cell hd9.cell
              have f9 := blk_free hd9.cell
              unfold rcs at c9
              have hs9 : p < w8.heap.size := blk_lt hd9.cell
              obtain ⟨nb, hnb⟩ : ∃ nb, BV9.length = nb := ⟨_, rfl⟩
              have HNB := hid hnb
              have hnbl : nb ≤ 1000000 := by
                rw [← hnb]
                have h1 := HG2.out.b
                have h2 : R2.B = nms BV9 := hd9.be
                rw [h2, nms, List.length_map] at h1; exact h1
              rw [hnb] at c9
              have hsb : Foot All (Sl BA9 nb bc9 2 (ncs BV9)) w8 := by
                have h := own_foot HD9.out.br
                rw [hnb] at h; exact h
              have HSB := hid hsb
              clear hsb hz9 hk9 hd9 kX hyz hR7 hyr hW7 hnb c7 f7
              go_wp2_with (at_builtin; go_loud (refine wpList_app elW (own_build0 (w := w8) (e := 96) (sz := 2) (base := w8.heap.size) (Nat.le_refl _)) (A := BA9) (m := nb) (c := bc9) (news := ncs BV9) (HSB.out _ (Kp.al w8 _)) HD9.out.one.2 ?_ (by simp) rfl _ _ rfl rfl rfl ?_); omega; intro v' wa howna hga hoba hnila; rw [Nat.zero_add, List.nil_append] at howna; obtain ⟨CA, cc, rfl⟩ := own_shape howna; have hka := (Kp.al w8 (.cells #[] 96)).then (Kp.grown hga) (fun i hi _ e => by simp [Value.ownBlock] at e; omega); have HKA' := hid hka; have HOA := hid howna; clear howna hga hoba hnila hka)
              go_wp2_with fail
              go_loopw [84] (fun i wr => ∃ j : Nat, j ≤ nb ∧ i = .int .i64 j ∧ Hid (wr.ownsRow w8.heap.size 96 2 (.slice CA nb cc) nb (ncs (renI BV9 yn b j))) ∧ Hid (Kp All w8 wr)) (fun i _ => nb - (intOf i).toNat)
              case atStart => exact ⟨0, Nat.zero_le _, rfl, hid HOA.out, hid HKA'.out⟩
              case round =>
                obtain ⟨j, hj, rfl, hown, hkp⟩ := hrel
                by_cases hlt : j < nb
                · have hb0 : decide ((j : Int) < (nb : Int)) = true := decide_eq_true (by omega)
                  obtain ⟨x, hx⟩ : ∃ x, BV9[j]? = some x := ⟨_, List.getElem?_eq_getElem (by rw [HNB.out]; exact hlt)⟩
                  have hat := renI_at yn b hx
                  have hlen : nb = (renI BV9 yn b j).length := by rw [renI_len]; exact HNB.out.symm
                  obtain ⟨cb, eCA, p0, p1, hb1⟩ := own_item hown.out hlen hat
                  have hcb : w8.heap.size ≤ cb := (hown.out.lt cb (by rw [eCA]; rfl)).1
                  have hfz : ∀ i, wr.frozen? ⟨cb, i, none⟩ = false := fun i => by
                    have h := hown.out
                    rw [eCA] at h
                    exact h.frozenAt i
                  have HST := hid (renI_set yn b hx)
                  have HSN := hid (ncs_setN hat b)
                  have HSS := hid (set_same hat)
                  subst eCA
                  obtain ⟨z, zr⟩ := x
                  dsimp only at p0
                  have j0 : (0 : Int) ≤ (j : Int) := by omega
                  have j1 : (j : Int) < (nb : Int) := by omega
                  clear hx hat hlen
                  by_cases he : z = yn
                  · have hd : (z.toList == yn.toList) = true := by simp [he]
                    have HEZ := hid he
                    clear he
                    go_wp2_with fail
                    refine ⟨⟨j + 1, by omega, by go_num, ?_, hid (hkp.out.setNew hcb _)⟩, by simp [intOf]; omega⟩
                    rw [HST.out, show ren1 yn b (z, zr) = (b, zr) from if_pos HEZ.out, ← HSN.out]
                    exact hid (hown.out.stored _ _).1
                  · have hd0 := nm_ne he
                    have hd : (z.toList == yn.toList) = false := by simp [hd0]
                    have HEZ := hid he
                    clear he
                    go_wp2_with fail
                    refine ⟨⟨j + 1, by omega, by go_num, ?_, hkp⟩, by simp [intOf]; omega⟩
                    rw [HST.out, show ren1 yn b (z, zr) = (z, zr) from if_neg HEZ.out, HSS.out]
                    exact hown
                · have hb0 : decide ((j : Int) < (nb : Int)) = false := decide_eq_false (by omega)
                  obtain rfl : j = nb := by omega
                  have bw := hkp.out.heap HD9.out.cell trivial
                  have cw := blk_cell bw
                  have fw := blk_free bw
                  have HBW := hid bw
                  unfold rcs at cw
                  rw [HNB.out] at cw
                  clear bw
                  go_wp2_with fail
                  go_ret
                  refine ⟨rfl, ?_⟩
                  rw [HR2.out]
                  have hx9 := qren_end HD9.out hkp.out HNB.out hown.out
                  exact Rx.trans ⟨Z3, HZ3.out, HK3.out, Rx.pre HK4.out (Rx.trans ⟨Z9, HZ9.out, HK9.out, hx9⟩)⟩)
end Go.Proofs.Ytdlbccjimdghkaa
