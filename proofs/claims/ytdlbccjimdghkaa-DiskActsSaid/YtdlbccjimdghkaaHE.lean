/- The document's disk in memory: sure, walked once. No condition but that it lies as RD says, its names are told once, the writes' names are files, and it is not great. -/
import Derived.Test.YtdlbccjimdghkaaM3
import Derived.Test.YtdlbccjimdghkaaRT
namespace Go.Proofs.Ytdlbccjimdghkaa
open Go.RowKit
set_option linter.unusedVariables false
set_option linter.unusedSimpArgs false
theorem addTo_len (F : List (Nm × By)) (n : Nm) (b : By) : (addTo F n b).length = F.length := by simp [addTo]
theorem pend_drop {B : List (Nm × By)} {k : Nat} {x : Nm × By} (h : B[k]? = some x) : pend (B.drop k) = x.2.length + pend (B.drop (k + 1)) := by
  have e : B.drop k = x :: B.drop (k + 1) := by
    obtain ⟨hk, e⟩ := List.getElem?_eq_some_iff.1 h
    rw [← e]; exact List.drop_eq_getElem_cons hk
  rw [e]; simp [pend]
theorem drop_at {B : List (Nm × By)} {k : Nat} {x : Nm × By} (h : B[k]? = some x) : B.drop k = x :: B.drop (k + 1) := by
  obtain ⟨hk, e⟩ := List.getElem?_eq_some_iff.1 h
  rw [← e]; exact List.drop_eq_getElem_cons hk
theorem or2 {a b P : Prop} (h : a ∨ b) (h1 : a → P) (h2 : b → P) : P := h.elim h1 h2
/-- The disk's own cell, and its buffer, told anew. -/
theorem RD0.recell {Z : Nat → Prop} {p : Nat} {R R' : DS} {lv bv bv' : Value} {LV BV : List Itm} {w w' : World} (h : RD0 Z p R lv bv LV BV w) (k : Kp (fun i => i ≠ p) w w') (hc : w'.heap[p]? = some (.cells (rcs R' lv bv') 77 (0, 0)))
    (hz : ∀ b, bv'.ownBlock = some b → Z b) (hr : w'.ownsRow 0 96 2 bv' 0 []) (hf : R'.F = nms LV) (hb : R'.B = []) : RD0 Z p R' lv bv' LV [] w' := by
  have pne : ∀ {e sz n : Nat} {u : Value} {xs : List Value}, w.ownsRow 0 e sz u n xs → e ≠ 77 → ∀ i, u.ownBlock = some i → i ≠ p := by
    intro e sz n u xs hu he i hi ep
    rcases hu.2 with ⟨rfl, _⟩ | ⟨g, cap, cur', rfl, _, hg, _⟩
    · cases hi
    · injection hi with hi
      simp only at hi
      rw [hi, ep, h.cell] at hg
      injection hg with hg
      injection hg with _ hg
      exact he hg.symm
  exact ⟨hc, hf, hb, own_kept h.fr k (pne h.fr (by decide)), hr, fun x hx => own_kept (h.data x (hx.imp_right fun h => absurd h (by simp))) k (pne (h.data x (hx.imp_right fun h => absurd h (by simp))) (by decide)), h.zp, h.zl, hz, fun x hx => h.zd x (hx.imp_right fun h => absurd h (by simp)), fun b hb => Nat.lt_of_lt_of_le (h.lt b hb) k.size⟩
/-- Where sure stands behind j writes. -/
structure Su (Z0 : Nat → Prop) (w0 : World) (p : Nat) (R : DS) (n0 : Nat) (lb n lc : Nat) (j nj : Nat) (W : World) : Prop where
  ex : ∃ Z F LV BV bv, RD0 Z p { R with F := F } (.slice (some ⟨lb, 0, none⟩) n lc) bv LV BV W ∧ (∀ i, i < w0.heap.size → Z i → Z0 i) ∧ settleF F (R.B.drop j) nj = settleF R.F R.B n0 ∧ F.map (·.1) = R.F.map (·.1) ∧ (∀ x ∈ F, x.2.length + pend (R.B.drop j) ≤ 1000000000)
  kp : Kp (fun i => ¬ Z0 i) w0 W
set_option maxRecDepth 100000 in
set_option maxHeartbeats 4000000 in
theorem qsure_any (Z0 : Nat → Prop) (p : Nat) (R : DS) (n0 : Nat) (hn0 : n0 ≤ 9223372036854775807) (w : World) (h : RD Z0 p R w) (hg : Gd R) :
    Calls Try.prog 77 #[.pointer (some ⟨p, 0, none⟩), .int .i64 n0] w fun e w' => e = .returned (.tuple #[]) ∧ Rx Z0 p { R with F := settleF R.F R.B n0, B := [] } w w' := by
  obtain ⟨lv, bv, LV, BV, h⟩ := h
  obtain ⟨LA, lc, rfl⟩ := own_shape h.fr
  obtain ⟨BA, bc, rfl⟩ := own_shape h.br
  have H := hid h
  have HG := hid hg
  have HB0 := hid (show R.B.length = BV.length by rw [h.be, nms, List.length_map])
  have cp := blk_cell h.cell
  obtain ⟨nb, hnb⟩ : ∃ nb, BV.length = nb := ⟨_, rfl⟩
  have HNB := hid hnb
  unfold rcs at cp
  rw [hnb] at cp
  have hnbl : nb ≤ 1000000 := by have := HB0.out; have := hg.b; omega
  clear h hnb hg
  go_enter Try.func77, Try.ntmps77
  go_wp2_with fail
  go_loopw [1, 13] (fun x i wr => ∃ (j nj : Nat), j ≤ nb ∧ i = .int .i64 j ∧ x = .int .i64 nj ∧ nj ≤ 9223372036854775807 ∧ Hid (∃ Z F LV bv BVj, RD0 Z p { R with F := F } (.slice LA LV.length lc) bv LV BVj wr ∧ (∀ i, i < w.heap.size → Z i → Z0 i) ∧ Kp (fun i => ¬ Z0 i) w wr ∧ settleF F (R.B.drop j) nj = settleF R.F R.B n0 ∧ F.map (·.1) = R.F.map (·.1) ∧ (∀ x ∈ F, x.2.length + pend (R.B.drop j) ≤ 1000000000) ∧ bv = .slice BA BV.length bc ∧ BVj = BV)) (fun _ i _ => nb - (intOf i).toNat)
  case atStart => exact ⟨0, n0, Nat.zero_le _, rfl, rfl, hn0, hid ⟨Z0, R.F, LV, _, BV, H.out, fun _ _ h => h, Kp.refl _ _, rfl, rfl, HG.out.s, rfl, rfl⟩⟩
  case round =>
    obtain ⟨j, nj, hj, rfl, rfl, hnj, hst⟩ := hrel
    obtain ⟨Z, F, LVj, bv, BVj, hD, hZ, hK, hse, hnm, hsz, rfl, rfl⟩ := hst.out
    have HD := hid hD; have HZ := hid hZ; have HK := hid hK; have HSE := hid hse; have HNM := hid hnm; have HSZ := hid hsz
    clear hD hZ hK hse hnm hsz hst
    by_cases hlt : j < nb
    · have hb0 : decide ((j : Int) < (nb : Int)) = true := decide_eq_true (by omega)
      obtain ⟨y, hy⟩ : ∃ y, BVj[j]? = some y := ⟨_, List.getElem?_eq_getElem (by rw [HNB.out]; exact hlt)⟩
      have hby : R.B[j]? = some (y.1, y.2.1) := by rw [H.out.be, nms_at, hy]; rfl
      have HBY := hid hby
      obtain ⟨gb, eA, r0, r1, hb1⟩ := own_item HD.out.br rfl hy
      have hyv := HD.out.data _ (.inr (List.mem_of_getElem? hy))
      have hmem := HG.out.nm _ (List.mem_of_getElem? hby)
      rw [← HNM.out] at hmem
      obtain ⟨i, s, hfi, hFi⟩ := findN_mem hmem
      obtain ⟨z, yb, yv⟩ := y
      dsimp only at r0 r1 hyv hfi hFi hby
      have HYV := hid hyv
      obtain ⟨YA, yc, hyv', hSY⟩ := own_sl8 hyv
      subst hyv' eA
      have hpd := HSZ.out _ (List.mem_of_getElem? hFi)
      rw [pend_drop hby] at hpd
      dsimp only at hpd
      have HPD := hid hpd
      obtain ⟨yl, hyl⟩ : ∃ yl, yb.length = yl := ⟨_, rfl⟩
      have HYL := hid hyl
      rw [hyl] at r1
      have HFI := hid hFi; have HFN := hid hfi
      have j0 : (0 : Int) ≤ (j : Int) := by omega
      have j1 : (j : Int) < (nb : Int) := by omega
      clear hy hby hyv hSY hmem hfi hFi hpd hyl cp
      have hcap : yl ≤ yc := by
        have := (own_sl HYV.out (Nat.le_refl _)).2
        rw [HYL.out] at this; exact this
      have hcase : nj < yl ∨ ¬ nj < yl := by omega
      refine or2 hcase ?cA ?cB
      case' cA =>
        intro hgt
        have d1 : decide ((yl : Int) > (nj : Int)) = true := decide_eq_true (by omega)
        have n1 : (nj : Int) ≤ (yc : Int) := by omega
        have n0 : (0 : Int) ≤ (nj : Int) := by omega
        go_wp2_with fail
        have k1 := Kp.al wr (.cells #[.string z, .slice YA yl yc] 96)
        obtain ⟨W1, hW1⟩ : ∃ W1, W1 = wr.alloc (.cells #[.string z, .slice YA yl yc] 96) := ⟨_, rfl⟩
        rw [← hW1] at k1 ⊢
        have HK1 := hid k1
        obtain ⟨kk, hkk⟩ : ∃ kk, kk = nj := ⟨_, rfl⟩
        rw [← hkk]
        have HKK := hid (show kk = min yl nj by omega)
        clear hkk d1 n1 n0 hW1 k1 r0 r1
      case' cB =>
        intro hgt
        have d1 : decide ((yl : Int) > (nj : Int)) = false := decide_eq_false (by omega)
        have n0 : IntKind.i64.wrap ((nj : Int) - (yl : Int)) = ((nj - yl : Nat) : Int) := by rw [IntWalk.i64_in _ (by omega)]; omega
        go_wp2_with fail
        have k1 := Kp.al wr (.cells #[.string z, .slice YA yl yc] 96)
        obtain ⟨W1, hW1⟩ : ∃ W1, W1 = wr.alloc (.cells #[.string z, .slice YA yl yc] 96) := ⟨_, rfl⟩
        rw [← hW1] at k1 ⊢
        have HK1 := hid k1
        obtain ⟨kk, hkk⟩ : ∃ kk, kk = yl := ⟨_, rfl⟩
        rw [← hkk]
        have HKK := hid (show kk = min yl nj by omega)
        clear hkk d1 n0 hW1 k1 r0 r1
      all_goals (
        have hFl : F.length = R.F.length := by have := congrArg List.length HNM.out; simpa using this
        have hLl : LVj.length = LV.length := by
          have h1 : F = nms LVj := HD.out.fe
          have h2 := H.out.fe
          rw [h1, h2, nms, nms, List.length_map, List.length_map] at hFl
          exact hFl
        have HLL := hid hLl
        refine (qfind_any Z p { R with F := F } z _ ⟨_, _, _, _, HD.out.all HK1.out⟩ (by show F.length ≤ _; rw [hFl]; exact HG.out.f)).mono ?_
        rintro e w2 ⟨rfl, k2⟩
        have hfe : findN F z = (i : Int) := HFN.out
        rw [show findN ({ R with F := F } : DS).F z = (i : Int) from hfe]
        have HK2 := hid (HK1.out.trans k2)
        obtain ⟨x, hx⟩ : ∃ x, LVj[i]? = some x := by
          have h1 : F = nms LVj := HD.out.fe
          have h2 := HFI.out
          rw [h1, nms_at] at h2
          cases hh : LVj[i]? with
          | none => rw [hh] at h2; cases h2
          | some x => exact ⟨x, rfl⟩
        have hxe : x.1 = z ∧ x.2.1 = s := by
          have h1 : F = nms LVj := HD.out.fe
          have h2 := HFI.out
          rw [h1, nms_at, hx] at h2
          injection h2 with h2
          injection h2 with h2 h3
          exact ⟨h2, h3⟩
        have HD2 := hid (HD.out.all HK2.out)
        obtain ⟨lb, eLA, q0, q1, hlb⟩ := own_item HD2.out.fr rfl hx
        have hxv := HD2.out.data _ (.inl (List.mem_of_getElem? hx))
        obtain ⟨xn, xb, xv⟩ := x
        dsimp only at hxe q0 q1 hxv
        obtain ⟨rfl, rfl⟩ := hxe
        obtain ⟨XA, xc, hxv', hXS⟩ := own_sl8 hxv
        subst hxv' eLA
        have HXS := hid hXS
        obtain ⟨xl, hxl⟩ : ∃ xl, xb.length = xl := ⟨_, rfl⟩
        have HXL := hid hxl
        rw [hxl] at q1
        have cp := blk_cell HD2.out.cell
        unfold rcs at cp
        rw [HNB.out] at cp
        obtain ⟨nl, hnl⟩ : ∃ nl, LVj.length = nl := ⟨_, rfl⟩
        have HNL := hid hnl
        rw [hnl] at cp
        have hil : i < nl := by rw [← hnl]; exact (List.getElem?_eq_some_iff.1 hx).1
        have z0 : (0 : Int) ≤ (i : Int) := by omega
        have z1 : (i : Int) < (nl : Int) := by omega
        have HX := hid hx
        have hYS : Foot All (Sl YA kk yc 1 (u8s (yb.take nj))) wr := by
          intro u hu
          have h1 := (own_sl (own_kept HYV.out hu fun _ _ => trivial) (k := kk) (by rw [HYL.out, HKK.out]; omega)).1
          have e : (u8s yb).take kk = u8s (yb.take nj) := by
            rw [u8s_take, HKK.out]
            by_cases h : yl ≤ nj
            · rw [Nat.min_eq_left h, List.take_of_length_le (by rw [u8s_len, HYL.out]; exact Nat.le_refl _), List.take_of_length_le (by rw [u8s_len, HYL.out]; exact h)]
            · rw [Nat.min_eq_right (by omega)]
          rw [e] at h1
          exact h1
        have HYS := hid hYS
        clear k2 hfe hx hxv hXS hxl hnl hYS hFl hLl
        go_wp2_with fail
        refine RegionLast.wp_region_end_held (S := fun w' => (∀ i, w'.cell? ⟨p, i, none⟩ = (#[.int .i64 R.blocks, .slice (some ⟨lb, 0, none⟩) nl lc, .slice (some ⟨gb, 0, none⟩) nb bc, .bool R.off, .int .i64 R.ops, .int .i64 R.fails, .int .i64 R.keep] : Array Value)[i]?) ∧ w'.cell? ⟨lb, i * 2 + 1, none⟩ = some (.slice XA xl xc)) (by kernel_rfl) (by kernel_rfl) ⟨fun i => cp i, q1⟩ (fun hHeld => ?_)
        simp only [List.length_cons, List.length_nil, Nat.zero_add, Nat.reduceAdd, Nat.reduceSub, List.take_succ_cons, List.take_zero, List.drop_succ_cons, List.drop_zero]
        (refine wpAnyH_take (i := 0) (oi := _) (v := ?_) (by (simp only [List.getElem?_toArray, List.getElem?_cons_succ, List.getElem?_cons_zero]); rfl) (by kernel_rfl) (by kernel_rfl) (by kernel_rfl) (by exact fun _ _ _ h => h) (Or.inl ⟨by rfl, ?_⟩) (by assumption) ?_; rotate_left; focus ((intro w hSw; (try dsimp only at hSw); go_simp) <;> with_reducible rfl); (try simp only [Act.put, List.getElem_toArray, List.getElem_cons_succ, List.getElem_cons_zero, List.setIfInBounds_toArray, List.set_cons_zero, List.set_cons_succ]))
        (refine wpAnyH_take (i := 1) (oi := _) (v := ?_) (by (simp only [List.getElem?_toArray, List.getElem?_cons_succ, List.getElem?_cons_zero]); rfl) (by kernel_rfl) (by kernel_rfl) (by kernel_rfl) (by exact fun _ _ _ h => h) (Or.inl ⟨by rfl, ?_⟩) (by assumption) ?_; rotate_left; focus ((intro w hSw; (try dsimp only at hSw); go_simp) <;> with_reducible rfl); (try simp only [Act.put, List.getElem_toArray, List.getElem_cons_succ, List.getElem_cons_zero, List.setIfInBounds_toArray, List.set_cons_zero, List.set_cons_succ]))
        (refine wpAnyH_take (i := 2) (oi := _) (v := ?_) (by (simp only [List.getElem?_toArray, List.getElem?_cons_succ, List.getElem?_cons_zero]); rfl) (by kernel_rfl) (by kernel_rfl) (by kernel_rfl) (by exact fun _ _ _ h => h) (Or.inl ⟨by rfl, ?_⟩) (by assumption) ?_; rotate_left; focus ((intro w hSw; (try dsimp only at hSw); go_simp) <;> with_reducible rfl); (try simp only [Act.put, List.getElem_toArray, List.getElem_cons_succ, List.getElem_cons_zero, List.setIfInBounds_toArray, List.set_cons_zero, List.set_cons_succ]))
        (refine wpAnyH_take (i := 3) (oi := _) (v := ?_) (by (simp only [List.getElem?_toArray, List.getElem?_cons_succ, List.getElem?_cons_zero]); rfl) (by kernel_rfl) (by kernel_rfl) (by kernel_rfl) (by exact fun _ _ _ h => h) (Or.inl ⟨by rfl, ?_⟩) (by assumption) ?_; rotate_left; focus ((intro w hSw; (try dsimp only at hSw); go_simp) <;> with_reducible rfl); (try simp only [Act.put, List.getElem_toArray, List.getElem_cons_succ, List.getElem_cons_zero, List.setIfInBounds_toArray, List.set_cons_zero, List.set_cons_succ]))
        (refine wpAnyH_take (i := 4) (oi := _) (v := ?_) (by (simp only [List.getElem?_toArray, List.getElem?_cons_succ, List.getElem?_cons_zero]); rfl) (by kernel_rfl) (by kernel_rfl) (by kernel_rfl) (by exact fun _ _ _ h => h) (Or.inl ⟨by rfl, ?_⟩) (by assumption) ?_; rotate_left; focus ((intro w hSw; (try dsimp only at hSw); go_simp) <;> with_reducible rfl); (try simp only [Act.put, List.getElem_toArray, List.getElem_cons_succ, List.getElem_cons_zero, List.setIfInBounds_toArray, List.set_cons_zero, List.set_cons_succ]))
        (refine wpAnyH_take (i := 6) (oi := _) (v := ?_) (by (simp only [List.getElem?_toArray, List.getElem?_cons_succ, List.getElem?_cons_zero]); rfl) (by kernel_rfl) (by kernel_rfl) (by kernel_rfl) (by exact fun _ _ _ h => h) (Or.inl ⟨by rfl, ?_⟩) (by assumption) ?_; rotate_left; focus ((intro w hSw; (try dsimp only at hSw); go_simp) <;> with_reducible rfl); (try simp only [Act.put, List.getElem_toArray, List.getElem_cons_succ, List.getElem_cons_zero, List.setIfInBounds_toArray, List.set_cons_zero, List.set_cons_succ]))
        (refine wpAnyH_take (i := 7) (oi := _) (v := ?_) (by (simp only [List.getElem?_toArray, List.getElem?_cons_succ, List.getElem?_cons_zero]); rfl) (by kernel_rfl) (by kernel_rfl) (by kernel_rfl) (by exact fun _ _ _ h => h) (Or.inl ⟨by rfl, ?_⟩) (by assumption) ?_; rotate_left; focus ((intro w hSw; (try dsimp only at hSw); go_simp) <;> with_reducible rfl); (try simp only [Act.put, List.getElem_toArray, List.getElem_cons_succ, List.getElem_cons_zero, List.setIfInBounds_toArray, List.set_cons_zero, List.set_cons_succ]))
        (refine wpAnyH_take (i := 8) (oi := _) (v := ?_) (by (simp only [List.getElem?_toArray, List.getElem?_cons_succ, List.getElem?_cons_zero]); rfl) (by kernel_rfl) (by kernel_rfl) (by kernel_rfl) (by exact fun _ _ _ h => h) (Or.inl ⟨by rfl, ?_⟩) (by assumption) ?_; rotate_left; focus ((intro w hSw; (try dsimp only at hSw); go_simp) <;> with_reducible rfl); (try simp only [Act.put, List.getElem_toArray, List.getElem_cons_succ, List.getElem_cons_zero, List.setIfInBounds_toArray, List.set_cons_zero, List.set_cons_succ]))
        (refine wpAnyH_take (i := 9) (oi := _) (v := ?_) (by (simp only [List.getElem?_toArray, List.getElem?_cons_succ, List.getElem?_cons_zero]); rfl) (by kernel_rfl) (by kernel_rfl) (by kernel_rfl) (by exact fun _ _ _ h => h) (Or.inl ⟨by rfl, ?_⟩) (by assumption) ?_; rotate_left; focus ((intro w hSw; (try dsimp only at hSw); go_simp) <;> with_reducible rfl); (try simp only [Act.put, List.getElem_toArray, List.getElem_cons_succ, List.getElem_cons_zero, List.setIfInBounds_toArray, List.set_cons_zero, List.set_cons_succ]))
        (refine wpAnyH_take (i := 10) (oi := _) (v := ?_) (by (simp only [List.getElem?_toArray, List.getElem?_cons_succ, List.getElem?_cons_zero]); rfl) (by kernel_rfl) (by kernel_rfl) (by kernel_rfl) (by exact fun _ _ _ h => h) (Or.inl ⟨by rfl, ?_⟩) (by assumption) ?_; rotate_left; focus ((intro w hSw; (try dsimp only at hSw); go_simp) <;> with_reducible rfl); (try simp only [Act.put, List.getElem_toArray, List.getElem_cons_succ, List.getElem_cons_zero, List.setIfInBounds_toArray, List.set_cons_zero, List.set_cons_succ]))
        (refine wpAnyH_take (i := 11) (oi := _) (v := ?_) (by (simp only [List.getElem?_toArray, List.getElem?_cons_succ, List.getElem?_cons_zero]); rfl) (by kernel_rfl) (by kernel_rfl) (by kernel_rfl) (by exact fun _ _ _ h => h) (Or.inl ⟨by rfl, ?_⟩) (by assumption) ?_; rotate_left; focus ((intro w hSw; (try dsimp only at hSw); go_simp) <;> with_reducible rfl); (try simp only [Act.put, List.getElem_toArray, List.getElem_cons_succ, List.getElem_cons_zero, List.setIfInBounds_toArray, List.set_cons_zero, List.set_cons_succ]))
        (refine wpAnyH_take (i := 12) (oi := _) (v := ?_) (by (simp only [List.getElem?_toArray, List.getElem?_cons_succ, List.getElem?_cons_zero]); rfl) (by kernel_rfl) (by kernel_rfl) (by kernel_rfl) (by exact fun _ _ _ h => h) (Or.inl ⟨by rfl, ?_⟩) (by assumption) ?_; rotate_left; focus ((intro w hSw; (try dsimp only at hSw); go_simp) <;> with_reducible rfl); (try simp only [Act.put, List.getElem_toArray, List.getElem_cons_succ, List.getElem_cons_zero, List.setIfInBounds_toArray, List.set_cons_zero, List.set_cons_succ]))
        (refine wpAnyH_take (i := 13) (oi := _) (v := ?_) (by (simp only [List.getElem?_toArray, List.getElem?_cons_succ, List.getElem?_cons_zero]); rfl) (by kernel_rfl) (by kernel_rfl) (by kernel_rfl) (by exact fun _ _ _ h => h) (Or.inl ⟨by rfl, ?_⟩) (by assumption) ?_; rotate_left; focus ((intro w hSw; (try dsimp only at hSw); go_simp) <;> with_reducible rfl); (try simp only [Act.put, List.getElem_toArray, List.getElem_cons_succ, List.getElem_cons_zero, List.setIfInBounds_toArray, List.set_cons_zero, List.set_cons_succ]))
        (refine wpAnyH_take (i := 15) (oi := _) (v := ?_) (by (simp only [List.getElem?_toArray, List.getElem?_cons_succ, List.getElem?_cons_zero]); rfl) (by kernel_rfl) (by kernel_rfl) (by kernel_rfl) (by exact fun _ _ _ h => h) (Or.inl ⟨by rfl, ?_⟩) (by assumption) ?_; rotate_left; focus ((intro w hSw; (try dsimp only at hSw); go_simp) <;> with_reducible rfl); (try simp only [Act.put, List.getElem_toArray, List.getElem_cons_succ, List.getElem_cons_zero, List.setIfInBounds_toArray, List.set_cons_zero, List.set_cons_succ]))
        (try simp only [Act.put, List.setIfInBounds_toArray, List.set_cons_zero, List.set_cons_succ])
        refine wpAnyH_ready (rs := [5]) (by kernel_rfl) (by simp) ?_
        refine AllReadyH.cons rfl ?_ AllReadyH.nil
        intro KQ hKQ
        refine step_plain rfl ?_
        go_simp
        have k3 : Kp All w2 (w2.alloc (.cells #[] 5)).drew := (Kp.al _ _).drew
        have cp3 := blk_cell (k3.heap HD2.out.cell trivial)
        unfold rcs at cp3
        rw [HNB.out, HNL.out] at cp3
        have q3 := k3.cell q1 trivial
        refine hKQ.out _ _ ⟨fun i => cp3 i, q3⟩ (fun hHeld2 => ?_)
        clear hKQ KQ k3 cp3 q3
        (try simp only [Act.put, List.setIfInBounds_toArray, List.set_cons_zero, List.set_cons_succ])
        refine wpAnyH_ready (rs := [14]) (by kernel_rfl) (by simp) ?_
        refine AllReadyH.cons rfl ?_ AllReadyH.nil
        intro KQ hKQ
        refine step_plain rfl (wp_app el8 (World.ownsRow.drew (own_build0 (w := w2) (e := 5) (sz := 1) (base := w2.heap.size) (Nat.le_refl _))) (A := XA) (m := xl) (c := xc) (news := u8s xb) ?_ ?_ ?_ ?_ _ _ rfl rfl rfl ?_)
        (have h := HXS.out _ ((Kp.al w2 (.cells #[] 5)).drew); rw [HXL.out] at h; exact h)
        (exact u8s_one xb)
        (have h := HPD.out; rw [HXL.out] at h; omega)
        (exact ((Kp.refl All w2).alloc _).size)
        intro v1 w5 hown5 hg5 hob5 hnil5
        rw [Nat.zero_add, List.nil_append] at hown5
        obtain ⟨A5, e5, rfl⟩ := own_shape hown5
        have k5 : Kp All w2 w5 := ((Kp.refl All w2).alloc (.cells #[] 5)).drew.then (Kp.grown hg5) (fun i hi _ e => by simp [Value.ownBlock] at e; omega)
        have cp5 := blk_cell (k5.heap HD2.out.cell trivial)
        unfold rcs at cp5
        rw [HNB.out, HNL.out] at cp5
        have q5 := k5.cell q1 trivial
        have K5 := hid k5; have OW5 := hid hown5
        clear hown5 hg5 hob5 hnil5 k5
        refine hKQ.out _ _ ⟨fun i => cp5 i, q5⟩ (fun hHeld3 => ?_)
        clear hKQ KQ cp5 q5
        (try simp only [Act.put, List.setIfInBounds_toArray, List.set_cons_zero, List.set_cons_succ])
        refine wpAnyH_ready (rs := [16]) (by kernel_rfl) (by simp) ?_
        refine AllReadyH.cons rfl ?_ AllReadyH.nil
        intro KQ hKQ
        refine step_plain rfl (wp_app el8 OW5.out (A := YA) (m := kk) (c := yc) (news := u8s (yb.take nj)) ?_ ?_ ?_ ?_ _ _ rfl rfl rfl ?_)
        (exact HYS.out _ (HK2.out.trans K5.out))
        (exact u8s_one _)
        (have h := HPD.out; rw [HXL.out, HYL.out] at h; have := HKK.out; omega)
        (exact K5.out.size)
        intro v2 w6 hown6 hg6 hob6 hnil6
        rw [← u8s_append] at hown6
        obtain ⟨A6, e6, rfl⟩ := own_shape hown6
        have k6 : Kp All w2 w6 := K5.out.then (Kp.grown hg6) (fun i hi _ e => by have := (OW5.out.lt i e.symm).1; omega)
        have b6 := k6.heap HD2.out.cell trivial
        have cp6 := blk_cell b6
        unfold rcs at cp6
        rw [HNB.out, HNL.out] at cp6
        have q6 := k6.cell q1 trivial
        have hfr6 := (HD2.out.all k6).fr
        have f6 : ∀ j, w6.frozen? ⟨lb, j, none⟩ = false := fun j => hfr6.frozenAt j
        have K6 := hid k6; have OW6 := hid hown6
        clear hown6 hg6 hob6 hnil6 k6 b6 hfr6
        refine hKQ.out _ _ ⟨fun i => cp6 i, q6⟩ (fun hHeld4 => ?_)
        clear hKQ KQ
        (refine wpAnyH_take (i := 17) (oi := _) (v := ?_) (by (simp only [List.getElem?_toArray, List.getElem?_cons_succ, List.getElem?_cons_zero]); rfl) (by kernel_rfl) (by kernel_rfl) (by kernel_rfl) (by exact fun _ _ _ h => h) (Or.inl ⟨by rfl, ?_⟩) (by assumption) ?_; rotate_left; focus ((intro w hSw; (try dsimp only at hSw); go_simp) <;> with_reducible rfl); (try simp only [Act.put, List.getElem_toArray, List.getElem_cons_succ, List.getElem_cons_zero, List.setIfInBounds_toArray, List.set_cons_zero, List.set_cons_succ]))
        (refine wpAnyH_take (i := 18) (oi := _) (v := ?_) (by (simp only [List.getElem?_toArray, List.getElem?_cons_succ, List.getElem?_cons_zero]); rfl) (by kernel_rfl) (by kernel_rfl) (by kernel_rfl) (by exact fun _ _ _ h => h) (Or.inl ⟨by rfl, ?_⟩) (by assumption) ?_; rotate_left; focus ((intro w hSw; (try dsimp only at hSw); go_simp) <;> with_reducible rfl); (try simp only [Act.put, List.getElem_toArray, List.getElem_cons_succ, List.getElem_cons_zero, List.setIfInBounds_toArray, List.set_cons_zero, List.set_cons_succ]))
        (try simp only [Act.put, List.setIfInBounds_toArray, List.set_cons_zero, List.set_cons_succ])
        refine wpAnyH_done (by kernel_rfl) ?_ _
        unfold RegionLast.LastQ
        dsimp only
        all_goals (go_wp2_with fail)
        have hnd : (({ R with F := F } : DS).F.map (·.1)).Nodup := by show (F.map (·.1)).Nodup; rw [HNM.out]; exact HG.out.nd
        have hl6 : (xb ++ yb.take nj).length = xl + kk := by rw [List.length_append, HXL.out, List.length_take, HYL.out, HKK.out, Nat.min_comm]
        have hw6 : w6.ownsRow w2.heap.size 5 1 (.slice A6 (xl + kk) e6) (xb ++ yb.take nj).length (u8s (xb ++ yb.take nj)) := by rw [hl6]; exact OW6.out
        obtain ⟨_, Z', hZ', hD', hK'⟩ := HD2.out.stored rfl hnd HX.out (xb ++ yb.take nj) (.slice A6 (xl + kk) e6) K6.out hw6
        have hFx : F[i]? = some (xn, xb) := HFI.out
        have hadd := addTo_set (by show (F.map (·.1)).Nodup; rw [HNM.out]; exact HG.out.nd) hFx (yb.take nj)
        dsimp only at hadd
        have hlt2 : w.heap.size ≤ w2.heap.size := Nat.le_trans HK.out.size HK2.out.size
        refine ⟨⟨j + 1, nj - kk, by omega, by go_num, by first | rfl | (congr 1; have := HKK.out; omega), by omega, hid ⟨Z', addTo F xn (yb.take nj), LVj.set i (xn, xb ++ yb.take nj, .slice A6 (xl + kk) e6), _, BVj, ?_, ?_, ?_, ?_, ?_, ?_, rfl, rfl⟩⟩, by simp [intOf]; omega⟩
        · rw [List.length_set, hadd]
          rw [HNB.out] at hD' ⊢
          exact hD'
        · exact fun b hb hz => HZ.out b hb (hZ' b (by omega) hz)
        · exact (HK.out.then HK2.out fun _ _ _ => trivial).then hK' fun b hb hn hz => hn (HZ.out b hb hz)
        · have h := HSE.out
          rw [drop_at HBY.out, settleF] at h
          rw [← h, HKK.out, HYL.out]
        · rw [addTo_keys]; exact HNM.out
        · intro x hx
          obtain ⟨y, hy, rfl⟩ := List.mem_map.1 hx
          have h1 := HSZ.out y hy
          rw [pend_drop HBY.out] at h1
          dsimp only at h1
          split
          · simp only [List.length_append, List.length_take]; omega
          · omega)
    · have hb0 : decide ((j : Int) < (nb : Int)) = false := decide_eq_false (by omega)
      have : j = nb := by omega
      subst this
      have hse := HSE.out
      have hdr : R.B.drop j = [] := List.drop_eq_nil_of_le (by rw [HB0.out, HNB.out]; exact Nat.le_refl _)
      rw [hdr, settleF] at hse
      have HSF := hid hse
      have cw := blk_cell HD.out.cell
      have fw := blk_free HD.out.cell
      clear hse hdr
      go_wp2_with fail
      go_end0
      refine ⟨rfl, ?_⟩
      have kS : Kp (fun i => i ≠ p) wr (wr.setCell ⟨p, 2, none⟩ (.slice none 0 0)) := (Kp.refl _ _).setOut (fun h => h rfl) _
      have hS := HD.out.cell
      refine ⟨Z, ?_, HZ.out, HK.out.then kS (fun b hb hn e => hn (HZ.out b hb (e ▸ HD.out.zp)))⟩
      exact ⟨_, .slice none 0 0, LVj, [], (HD.out.recell kS (by rw [blk_set hS 2]; rfl) (fun b hb => by cases hb) (World.ownsRow_nil _ _ _ _) (by rw [← HSF.out]; exact HD.out.fe) rfl)⟩
end Go.Proofs.Ytdlbccjimdghkaa
