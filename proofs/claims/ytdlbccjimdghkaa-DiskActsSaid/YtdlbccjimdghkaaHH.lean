/- The document's disk in memory: gone, walked once. No condition but that it lies as RD says, and is good. -/
import Derived.Test.YtdlbccjimdghkaaHG
namespace Go.Proofs.Ytdlbccjimdghkaa
open Go.RowKit
set_option linter.unusedVariables false
set_option linter.unusedSimpArgs false
set_option maxRecDepth 100000 in
set_option maxHeartbeats 4000000 in
theorem qgone_any (Z : Nat → Prop) (p : Nat) (R : DS) (k : Nat) (nm : Nm) (s : By) (w : World) (h : RD Z p R w) (hg : Gd R) (hx : R.F[k]? = some (nm, s)) :
    Calls Try.prog 73 #[.pointer (some ⟨p, 0, none⟩), .int .i64 k] w fun e w' => e = .returned (.tuple #[]) ∧ Rx Z p (R.gone nm) w w' := by
  obtain ⟨lv, bv, LV, BV, h⟩ := h
  obtain ⟨LA, lc, rfl⟩ := own_shape h.fr
  obtain ⟨BA, bc, rfl⟩ := own_shape h.br
  have H := hid h
  have HG := hid hg
  obtain ⟨y, hy⟩ : ∃ y, LV[k]? = some y := by
    have h1 := hx
    rw [h.fe, nms_at] at h1
    cases hh : LV[k]? with
    | none => rw [hh] at h1; cases h1
    | some x => exact ⟨x, rfl⟩
  have hye : y.1 = nm := by
    have h1 := hx
    rw [h.fe, nms_at, hy] at h1
    injection h1 with h1; injection h1
  have hll : LV.length ≤ 1000000 := by have := hg.f; rw [h.fe, nms, List.length_map] at this; exact this
  have hbl : BV.length ≤ 1000000 := by have := hg.b; rw [h.be, nms, List.length_map] at this; exact this
  have HLL := hid hll; have HBL := hid hbl
  obtain ⟨b, eLA, q0, q1, hlb⟩ := own_item h.fr rfl hy
  subst eLA
  have hsc : LV.length ≤ lc := by
    rcases h.fr.2 with ⟨e, _⟩ | ⟨g, cap, cur, e, _, _, hn, _⟩
    · cases e
    · injection e with _ _ e; omega
  obtain ⟨yn, yb, yv⟩ := y
  dsimp only at hye q0 q1
  subst hye
  have hHF : Foot All (Sl (some ⟨b, 0, none⟩) LV.length lc 2 (ncs LV)) w := own_foot h.fr
  have HF := hid hHF
  have hk : k < LV.length := (List.getElem?_eq_some_iff.1 hy).1
  have HY := hid hy
  have c0 := blk_cell h.cell
  have f0 := blk_free h.cell
  unfold rcs at c0
  have hs2 : p < w.heap.size := blk_lt h.cell
  have i0 : (0 : Int) ≤ (k : Int) := by omega
  have i1 : (k : Int) < (LV.length : Int) := by omega
  have i2 : (k : Int) + 1 ≤ (LV.length : Int) := by omega
  have i3 : (0 : Int) ≤ (k : Int) + 1 := by omega
  have i4 : (k : Int) ≤ (lc : Int) := by omega
  have i5 : (LV.length : Int) ≤ (lc : Int) := by omega
  have hwr : IntKind.i64.wrap ((k : Int) + 1) = (k : Int) + 1 := IntWalk.i64_in _ (by omega)
  have HX := hid hx
  clear h hx hg hHF hy
  go_enter Try.func73, Try.ntmps73
  go_wp2_with fail
  refine RegionLast.wp_region_end_held (S := fun w' => ∀ i, w'.cell? ⟨p, i, none⟩ = (#[.int .i64 R.blocks, .slice (some ⟨b, 0, none⟩) LV.length lc, .slice BA BV.length bc, .bool R.off, .int .i64 R.ops, .int .i64 R.fails, .int .i64 R.keep] : Array Value)[i]?) (by kernel_rfl) (by kernel_rfl) (fun i => c0 i) (fun hHeld => ?_)
  simp only [List.length_cons, List.length_nil, Nat.zero_add, Nat.reduceAdd, Nat.reduceSub, List.take_succ_cons, List.take_zero, List.drop_succ_cons, List.drop_zero]
  (refine wpAnyH_take (i := 0) (oi := _) (v := ?_) (by (simp only [List.getElem?_toArray, List.getElem?_cons_succ, List.getElem?_cons_zero]); rfl) (by kernel_rfl) (by kernel_rfl) (by kernel_rfl) (by exact fun _ _ _ h => h) (Or.inl ⟨by rfl, ?_⟩) (by assumption) ?_; rotate_left; focus ((intro w hSw; (try dsimp only at hSw); go_simp) <;> with_reducible rfl); (try simp only [Act.put, List.getElem_toArray, List.getElem_cons_succ, List.getElem_cons_zero, List.setIfInBounds_toArray, List.set_cons_zero, List.set_cons_succ]))
  (refine wpAnyH_take (i := 2) (oi := _) (v := ?_) (by (simp only [List.getElem?_toArray, List.getElem?_cons_succ, List.getElem?_cons_zero]); rfl) (by kernel_rfl) (by kernel_rfl) (by kernel_rfl) (by exact fun _ _ _ h => h) (Or.inl ⟨by rfl, ?_⟩) (by assumption) ?_; rotate_left; focus ((intro w hSw; (try dsimp only at hSw); go_simp) <;> with_reducible rfl); (try simp only [Act.put, List.getElem_toArray, List.getElem_cons_succ, List.getElem_cons_zero, List.setIfInBounds_toArray, List.set_cons_zero, List.set_cons_succ]))
  (refine wpAnyH_take (i := 3) (oi := _) (v := ?_) (by (simp only [List.getElem?_toArray, List.getElem?_cons_succ, List.getElem?_cons_zero]); rfl) (by kernel_rfl) (by kernel_rfl) (by kernel_rfl) (by exact fun _ _ _ h => h) (Or.inl ⟨by rfl, ?_⟩) (by assumption) ?_; rotate_left; focus ((intro w hSw; (try dsimp only at hSw); go_simp) <;> with_reducible rfl); (try simp only [Act.put, List.getElem_toArray, List.getElem_cons_succ, List.getElem_cons_zero, List.setIfInBounds_toArray, List.set_cons_zero, List.set_cons_succ]))
  (refine wpAnyH_take (i := 4) (oi := _) (v := ?_) (by (simp only [List.getElem?_toArray, List.getElem?_cons_succ, List.getElem?_cons_zero]); rfl) (by kernel_rfl) (by kernel_rfl) (by kernel_rfl) (by exact fun _ _ _ h => h) (Or.inl ⟨by rfl, ?_⟩) (by assumption) ?_; rotate_left; focus ((intro w hSw; (try dsimp only at hSw); go_simp) <;> with_reducible rfl); (try simp only [Act.put, List.getElem_toArray, List.getElem_cons_succ, List.getElem_cons_zero, List.setIfInBounds_toArray, List.set_cons_zero, List.set_cons_succ]))
  (refine wpAnyH_take (i := 5) (oi := _) (v := ?_) (by (simp only [List.getElem?_toArray, List.getElem?_cons_succ, List.getElem?_cons_zero]); rfl) (by kernel_rfl) (by kernel_rfl) (by kernel_rfl) (by exact fun _ _ _ h => h) (Or.inl ⟨by rfl, ?_⟩) (by assumption) ?_; rotate_left; focus ((intro w hSw; (try dsimp only at hSw); go_simp) <;> with_reducible rfl); (try simp only [Act.put, List.getElem_toArray, List.getElem_cons_succ, List.getElem_cons_zero, List.setIfInBounds_toArray, List.set_cons_zero, List.set_cons_succ]))
  (refine wpAnyH_take (i := 6) (oi := _) (v := ?_) (by (simp only [List.getElem?_toArray, List.getElem?_cons_succ, List.getElem?_cons_zero]); rfl) (by kernel_rfl) (by kernel_rfl) (by kernel_rfl) (by exact fun _ _ _ h => h) (Or.inl ⟨by rfl, ?_⟩) (by assumption) ?_; rotate_left; focus ((intro w hSw; (try dsimp only at hSw); go_simp) <;> with_reducible rfl); (try simp only [Act.put, List.getElem_toArray, List.getElem_cons_succ, List.getElem_cons_zero, List.setIfInBounds_toArray, List.set_cons_zero, List.set_cons_succ]))
  (refine wpAnyH_take (i := 7) (oi := _) (v := ?_) (by (simp only [List.getElem?_toArray, List.getElem?_cons_succ, List.getElem?_cons_zero]); rfl) (by kernel_rfl) (by kernel_rfl) (by kernel_rfl) (by exact fun _ _ _ h => h) (Or.inl ⟨by rfl, ?_⟩) (by assumption) ?_; rotate_left; focus ((intro w hSw; (try dsimp only at hSw); go_simp) <;> with_reducible rfl); (try simp only [Act.put, List.getElem_toArray, List.getElem_cons_succ, List.getElem_cons_zero, List.setIfInBounds_toArray, List.set_cons_zero, List.set_cons_succ]))
  (refine wpAnyH_take (i := 9) (oi := _) (v := ?_) (by (simp only [List.getElem?_toArray, List.getElem?_cons_succ, List.getElem?_cons_zero]); rfl) (by kernel_rfl) (by kernel_rfl) (by kernel_rfl) (by exact fun _ _ _ h => h) (Or.inl ⟨by rfl, ?_⟩) (by assumption) ?_; rotate_left; focus ((intro w hSw; (try dsimp only at hSw); go_simp) <;> with_reducible rfl); (try simp only [Act.put, List.getElem_toArray, List.getElem_cons_succ, List.getElem_cons_zero, List.setIfInBounds_toArray, List.set_cons_zero, List.set_cons_succ]))
  (refine wpAnyH_take (i := 10) (oi := _) (v := ?_) (by (simp only [List.getElem?_toArray, List.getElem?_cons_succ, List.getElem?_cons_zero]); rfl) (by kernel_rfl) (by kernel_rfl) (by kernel_rfl) (by exact fun _ _ _ h => h) (Or.inl ⟨by rfl, ?_⟩) (by assumption) ?_; rotate_left; focus ((intro w hSw; (try dsimp only at hSw); go_simp) <;> with_reducible rfl); (try simp only [Act.put, List.getElem_toArray, List.getElem_cons_succ, List.getElem_cons_zero, List.setIfInBounds_toArray, List.set_cons_zero, List.set_cons_succ]))
  (refine wpAnyH_take (i := 11) (oi := _) (v := ?_) (by (simp only [List.getElem?_toArray, List.getElem?_cons_succ, List.getElem?_cons_zero]); rfl) (by kernel_rfl) (by kernel_rfl) (by kernel_rfl) (by exact fun _ _ _ h => h) (Or.inl ⟨by rfl, ?_⟩) (by assumption) ?_; rotate_left; focus ((intro w hSw; (try dsimp only at hSw); go_simp) <;> with_reducible rfl); (try simp only [Act.put, List.getElem_toArray, List.getElem_cons_succ, List.getElem_cons_zero, List.setIfInBounds_toArray, List.set_cons_zero, List.set_cons_succ]))
  (refine wpAnyH_take (i := 12) (oi := _) (v := ?_) (by (simp only [List.getElem?_toArray, List.getElem?_cons_succ, List.getElem?_cons_zero]); rfl) (by kernel_rfl) (by kernel_rfl) (by kernel_rfl) (by exact fun _ _ _ h => h) (Or.inl ⟨by rfl, ?_⟩) (by assumption) ?_; rotate_left; focus ((intro w hSw; (try dsimp only at hSw); go_simp) <;> with_reducible rfl); (try simp only [Act.put, List.getElem_toArray, List.getElem_cons_succ, List.getElem_cons_zero, List.setIfInBounds_toArray, List.set_cons_zero, List.set_cons_succ]))
  (refine wpAnyH_take (i := 13) (oi := _) (v := ?_) (by (simp only [List.getElem?_toArray, List.getElem?_cons_succ, List.getElem?_cons_zero]); rfl) (by kernel_rfl) (by kernel_rfl) (by kernel_rfl) (by exact fun _ _ _ h => h) (Or.inl ⟨by rfl, ?_⟩) (by assumption) ?_; rotate_left; focus ((intro w hSw; (try dsimp only at hSw); go_simp) <;> with_reducible rfl); (try simp only [Act.put, List.getElem_toArray, List.getElem_cons_succ, List.getElem_cons_zero, List.setIfInBounds_toArray, List.set_cons_zero, List.set_cons_succ]))
  (refine wpAnyH_take (i := 14) (oi := _) (v := ?_) (by (simp only [List.getElem?_toArray, List.getElem?_cons_succ, List.getElem?_cons_zero]); rfl) (by kernel_rfl) (by kernel_rfl) (by kernel_rfl) (by exact fun _ _ _ h => h) (Or.inl ⟨by rfl, ?_⟩) (by assumption) ?_; rotate_left; focus ((intro w hSw; (try dsimp only at hSw); go_simp) <;> with_reducible rfl); (try simp only [Act.put, List.getElem_toArray, List.getElem_cons_succ, List.getElem_cons_zero, List.setIfInBounds_toArray, List.set_cons_zero, List.set_cons_succ]))
  (refine wpAnyH_take (i := 15) (oi := _) (v := ?_) (by (simp only [List.getElem?_toArray, List.getElem?_cons_succ, List.getElem?_cons_zero]); rfl) (by kernel_rfl) (by kernel_rfl) (by kernel_rfl) (by exact fun _ _ _ h => h) (Or.inl ⟨by rfl, ?_⟩) (by assumption) ?_; rotate_left; focus ((intro w hSw; (try dsimp only at hSw); go_simp) <;> with_reducible rfl); (try simp only [Act.put, List.getElem_toArray, List.getElem_cons_succ, List.getElem_cons_zero, List.setIfInBounds_toArray, List.set_cons_zero, List.set_cons_succ]))
  (try simp only [Act.put, List.setIfInBounds_toArray, List.set_cons_zero, List.set_cons_succ])
  refine wpAnyH_ready (rs := [1]) (by kernel_rfl) (by simp) ?_
  refine AllReadyH.cons rfl ?_ AllReadyH.nil
  intro KQ hKQ
  refine step_plain rfl ?_
  go_simp
  have ca2 : ∀ i, ((w.alloc (.cells #[] 94)).drew).cell? ⟨p, i, none⟩ = (#[.int .i64 R.blocks, .slice (some ⟨b, 0, none⟩) LV.length lc, .slice BA BV.length bc, .bool R.off, .int .i64 R.ops, .int .i64 R.fails, .int .i64 R.keep] : Array Value)[i]? := fun i => blk_cell (blk_alloc H.out.cell _) i
  refine hKQ.out _ _ ca2 (fun hHeld2 => ?_)
  clear hKQ KQ ca2
  (try simp only [Act.put, List.setIfInBounds_toArray, List.set_cons_zero, List.set_cons_succ])
  refine wpAnyH_ready (rs := [8]) (by kernel_rfl) (by simp) ?_
  refine AllReadyH.cons rfl ?_ AllReadyH.nil
  intro KQ hKQ
  refine step_plain rfl (wp_app elF (World.ownsRow.drew (own_build0 (w := w) (e := 94) (sz := 2) (base := w.heap.size) (Nat.le_refl _))) (A := some ⟨b, 0, none⟩) (m := k) (c := lc) (news := (ncs LV).take (k * 2)) ?_ ?_ ?_ ?_ _ _ rfl rfl rfl ?_)
  (exact sl_head (HF.out _ ((Kp.al w _).drew)) (by omega))
  (exact fun u hu => H.out.one.1 u (List.mem_of_mem_take hu))
  (have := HLL.out; omega)
  (exact ((Kp.refl All w).alloc _).size)
  intro v1 w5 hown5 hg5 hob5 hnil5
  rw [Nat.zero_add, List.nil_append] at hown5
  obtain ⟨A5, e5, rfl⟩ := own_shape hown5
  have k5 : Kp All w w5 := ((Kp.refl All w).alloc (.cells #[] 94)).drew.then (Kp.grown hg5) (fun i hi _ e => by simp [Value.ownBlock] at e; omega)
  have ca5 := blk_cell (k5.heap H.out.cell trivial)
  have K5 := hid k5; have OW5 := hid hown5
  clear hown5 hg5 hob5 hnil5 k5
  refine hKQ.out _ _ (fun i => ca5 i) (fun hHeld3 => ?_)
  clear hKQ KQ ca5
  (try simp only [Act.put, List.setIfInBounds_toArray, List.set_cons_zero, List.set_cons_succ])
  refine wpAnyH_ready (rs := [16]) (by kernel_rfl) (by simp) ?_
  refine AllReadyH.cons rfl ?_ AllReadyH.nil
  intro KQ hKQ
  refine step_plain rfl (wp_app elF OW5.out (A := if lc = k + 1 then some ⟨b, 0, none⟩ else some ⟨b, (k + 1) * 2, none⟩) (m := LV.length - (k + 1)) (c := lc - (k + 1)) (news := (ncs LV).drop ((k + 1) * 2)) ?_ ?_ ?_ ?_ _ _ rfl rfl rfl ?_)
  (exact sl_tail (HF.out _ K5.out) (by omega))
  (exact fun u hu => H.out.one.1 u (List.mem_of_mem_drop hu))
  (have := HLL.out; omega)
  (exact K5.out.size)
  intro v2 w6 hown6 hg6 hob6 hnil6
  obtain ⟨A6, e6, rfl⟩ := own_shape hown6
  have k6 : Kp All w w6 := K5.out.then (Kp.grown hg6) (fun i hi _ e => by have := (OW5.out.lt i e.symm).1; omega)
  have b6 := k6.heap H.out.cell trivial
  have ca6 := blk_cell b6
  have f6 := blk_free b6
  have B6 := hid b6; have K6 := hid k6; have OW6 := hid hown6
  clear hown6 hg6 hob6 hnil6 k6 b6
  refine hKQ.out _ _ (fun i => ca6 i) (fun hHeld4 => ?_)
  clear hKQ KQ
  (refine wpAnyH_take (i := 17) (oi := _) (v := ?_) (by (simp only [List.getElem?_toArray, List.getElem?_cons_succ, List.getElem?_cons_zero]); rfl) (by kernel_rfl) (by kernel_rfl) (by kernel_rfl) (by exact fun _ _ _ h => h) (Or.inl ⟨by rfl, ?_⟩) (by assumption) ?_; rotate_left; focus ((intro w hSw; (try dsimp only at hSw); go_simp) <;> with_reducible rfl); (try simp only [Act.put, List.getElem_toArray, List.getElem_cons_succ, List.getElem_cons_zero, List.setIfInBounds_toArray, List.set_cons_zero, List.set_cons_succ]))
  (refine wpAnyH_take (i := 18) (oi := _) (v := ?_) (by (simp only [List.getElem?_toArray, List.getElem?_cons_succ, List.getElem?_cons_zero]); rfl) (by kernel_rfl) (by kernel_rfl) (by kernel_rfl) (by exact fun _ _ _ h => h) (Or.inl ⟨by rfl, ?_⟩) (by assumption) ?_; rotate_left; focus ((intro w hSw; (try dsimp only at hSw); go_simp) <;> with_reducible rfl); (try simp only [Act.put, List.getElem_toArray, List.getElem_cons_succ, List.getElem_cons_zero, List.setIfInBounds_toArray, List.set_cons_zero, List.set_cons_succ]))
  (try simp only [Act.put, List.setIfInBounds_toArray, List.set_cons_zero, List.set_cons_succ])
  refine wpAnyH_done (by kernel_rfl) ?_ _
  unfold RegionLast.LastQ
  dsimp only
  have b7 : ((w6.setCell ⟨p, 1, none⟩ (.slice A6 (k + (LV.length - (k + 1))) e6))).heap[p]? = some (.cells #[.int .i64 R.blocks, .slice A6 (k + (LV.length - (k + 1))) e6, .slice BA BV.length bc, .bool R.off, .int .i64 R.ops, .int .i64 R.fails, .int .i64 R.keep] 77 (0, 0)) := by rw [blk_set B6.out 1]; rfl
  have k7 : Kp (fun i => i ≠ p) w6 (w6.setCell ⟨p, 1, none⟩ (.slice A6 (k + (LV.length - (k + 1))) e6)) := (Kp.refl _ _).setOut (fun h => h rfl) _
  have HB7 := hid b7; have HK7 := hid k7
  clear b7 k7
  have hcc : lc = k + 1 ∨ lc ≠ k + 1 := by omega
  all_goals (go_wp2_with fail)
  all_goals (
    have hpt : ∀ {e sz n : Nat} {u : Value} {xs : List Value}, w6.ownsRow 0 e sz u n xs → e ≠ 77 → ∀ i, u.ownBlock = some i → i ≠ p := fun hu he i hi => by
      obtain ⟨cur, hc⟩ := own_ty hu hi
      exact ty_ne hc B6.out he
    have H6 := H.out.all K6.out
    have hbr7 := own_kept H6.br HK7.out (hpt H6.br (by decide))
    have hdat7 := fun x hx => own_kept (H6.data x hx) HK7.out (hpt (H6.data x hx) (by decide))
    have hlr7 := own_kept (World.ownsRow.mono OW6.out (Nat.zero_le _)) HK7.out (hpt (World.ownsRow.mono OW6.out (Nat.zero_le _)) (by decide))
    have hkz7 := K6.out.all.then HK7.out (fun i hi (hn : ¬ Z i) e => hn (e ▸ H.out.zp))
    have hsz7 := Nat.le_trans K6.out.size HK7.out.size
    have HB7' := hid HB7.out
    revert hbr7 hdat7 hlr7 hkz7 hsz7 HB7'
    clear HK7 HB7 H6 hpt
    generalize (w6.setCell ⟨p, 1, none⟩ (.slice A6 (k + (LV.length - (k + 1))) e6)) = W7
    intro hbr7 hdat7 hlr7 hkz7 hsz7 HB7
    have HBR := hid hbr7; have HDT := hid hdat7; have HLR := hid hlr7; have HKZ := hid hkz7; have HSZ := hid hsz7
    clear hbr7 hdat7 hlr7 hkz7 hsz7
    obtain ⟨nb, hnb⟩ : ∃ nb, BV.length = nb := ⟨_, rfl⟩
    have HNB := hid hnb
    have hnbl : nb ≤ 1000000 := by rw [← hnb]; exact HBL.out
    rw [hnb]
    clear hnb hwr i0 i1 i2 i3 i4 i5 c0 f0 ca6 f6
    go_loopw [5, 40] (fun x i wr => ∃ j : Nat, j ≤ nb ∧ i = .int .i64 j ∧ Hid (wr.ownsRow W7.heap.size 96 2 x (flt (BV.take j) yn).length (ncs (flt (BV.take j) yn))) ∧ Hid (Kp All W7 wr)) (fun _ i _ => nb - (intOf i).toNat)
    case atStart => exact ⟨0, Nat.zero_le _, rfl, hid (World.ownsRow_nil _ _ _ _), Kp.refl _ _⟩
    case round =>
      obtain ⟨j, hj, rfl, hown, hkp⟩ := hrel
      by_cases hlt : j < nb
      · have hb0 : decide ((j : Int) < (nb : Int)) = true := decide_eq_true (by omega)
        obtain ⟨y, hy⟩ : ∃ y, BV[j]? = some y := ⟨_, List.getElem?_eq_getElem (by rw [HNB.out]; exact hlt)⟩
        have HTK := hid (flt_take yn hy)
        have hbr := own_kept HBR.out hkp.out (fun _ _ => trivial)
        obtain ⟨gb, eA, r0, r1, hb1⟩ := own_item hbr rfl hy
        have hyv := HDT.out _ (.inr (List.mem_of_getElem? hy))
        obtain ⟨z, zb, zv⟩ := y
        obtain ⟨ZA, zc, hzv, _⟩ := own_sl8 hyv
        dsimp only at r0 r1 hzv
        subst hzv eA
        obtain ⟨zl, hzl⟩ : ∃ zl, zb.length = zl := ⟨_, rfl⟩
        have HZL := hid hzl
        rw [hzl] at r1 HTK
        have j0 : (0 : Int) ≤ (j : Int) := by omega
        have j1 : (j : Int) < (nb : Int) := by omega
        obtain ⟨cn, hcn⟩ : ∃ cn, (flt (BV.take j) yn).length = cn := ⟨_, rfl⟩
        have hcl : cn ≤ 1000000 := by
          have h1 := flt_len (BV.take j) yn
          have h2 := HBL.out
          rw [List.length_take] at h1; omega
        have HCN := hid hcn
        rw [hcn] at hown
        obtain ⟨RA, rc, rfl⟩ := own_shape hown.out
        clear hy hbr hyv hzl hcn
        by_cases he : z = yn
        · have hd : (z.toList != yn.toList) = false := by simp [he]
          rw [if_pos he, List.append_nil] at HTK
          subst he
          go_wp2_with fail
          refine ⟨⟨j + 1, by omega, by go_num, ?_, hkp.out.alloc _⟩, by simp [intOf]; omega⟩
          rw [HTK.out, HCN.out]
          exact hid (own_kept hown.out (Kp.al _ _) fun _ _ => trivial)
        · have hd0 := nm_ne he
          have hd1 : (z.toList == yn.toList) = false := by simp [hd0]
          have hd : (z.toList != yn.toList) = true := by simp [hd0]
          rw [if_neg he] at HTK
          go_wp2_with (at_builtin; go_loud (refine wpList_app elW ((hown.out.alloc _).alloc _) (sl_two (m := wr.heap.size + 1) (by simp) (.string z) (.slice ZA zl zc) _) (two_ok _ _ _ _) ?_ (Nat.le_trans hkp.out.size (by simp; omega)) rfl _ _ rfl rfl rfl ?_); omega; intro v' w4 hown4 hg4 hob4 hnil4; obtain ⟨A4, c4', rfl⟩ := own_shape hown4; have HOW4 := hid hown4; have HG4 := hid hg4; clear hown4 hg4 hob4 hnil4)
          go_wp2_with fail
          refine ⟨⟨j + 1, by omega, by go_num, ?_, ?_⟩, by simp [intOf]; omega⟩
          · rw [HTK.out, ncs_app, List.length_append, HCN.out]
            exact hid HOW4.out
          · exact hid (((hkp.out.alloc _).alloc _).then (Kp.grown HG4.out) (fun i hi _ e => by have := (hown.out.lt i e.symm).1; omega))
      · have hb0 : decide ((j : Int) < (nb : Int)) = false := decide_eq_false (by omega)
        obtain rfl : j = nb := by omega
        rw [List.take_of_length_le (by rw [HNB.out]; exact Nat.le_refl _)] at hown
        have bw := hkp.out.heap HB7.out trivial
        have cw := blk_cell bw
        have fw := blk_free bw
        have HBW := hid bw
        obtain ⟨RA, rc, e1⟩ := own_shape hown.out
        subst e1
        clear bw
        go_wp2_with fail
        go_end0
        refine ⟨rfl, ?_⟩
        have kS : Kp (fun i => i ≠ p) wr (wr.setCell ⟨p, 2, none⟩ (.slice RA (flt BV yn).length rc)) := (Kp.refl _ _).setOut (fun h => h rfl) _
        have hpw : ∀ {e sz n : Nat} {u : Value} {xs : List Value}, wr.ownsRow 0 e sz u n xs → e ≠ 77 → ∀ i, u.ownBlock = some i → i ≠ p := fun hu he i hi => by
          obtain ⟨cur, hc⟩ := own_ty hu hi
          exact ty_ne hc HBW.out he
        have hlw := own_kept HLR.out hkp.out (fun _ _ => trivial)
        have hdw := fun x hx => own_kept (HDT.out x hx) hkp.out (fun _ _ => trivial)
        have hown0 := World.ownsRow.mono hown.out (Nat.zero_le _)
        have hle : (LV.eraseIdx k).length = k + (LV.length - (k + 1)) := by rw [List.length_eraseIdx_of_lt hk]; omega
        have hnd : ((nms LV).map (·.1)).Nodup := by rw [← H.out.fe]; exact HG.out.nd
        have hmem : ∀ x, x ∈ LV.eraseIdx k ∨ x ∈ flt BV yn → x ∈ LV ∨ x ∈ BV := fun x hx => hx.imp (fun h => List.mem_of_mem_eraseIdx h) (fun h => (List.mem_filter.1 h).1)
        refine Rx.mk' H.out ((HKZ.out.then hkp.out fun _ _ _ => trivial).then kS fun i hi hn e => hn (e ▸ H.out.zp)) (lv' := .slice A6 (k + (LV.length - (k + 1))) e6) (bv' := .slice RA (flt BV yn).length rc) (LV' := LV.eraseIdx k) (BV' := flt BV yn) ?_ ?_ ?_ ?_ ?_ ?_ ?_ ?_
        · rw [blk_set HBW.out 2]; rfl
        · show adel R.F yn = nms (LV.eraseIdx k)
          rw [H.out.fe, adel_erase (j := k) (x := (yn, yb)) hnd (by rw [nms_at, HY.out]; rfl), nms, nms, map_eraseIdx']
        · show adel R.B yn = _
          rw [nms_flt, H.out.be]
        · rw [hle, show ncs (LV.eraseIdx k) = (ncs LV).take (k * 2) ++ (ncs LV).drop ((k + 1) * 2) from by rw [List.eraseIdx_eq_take_drop_succ, ncs_app, ncs_take, ncs_drop]]
          exact own_kept hlw kS (hpw hlw (by decide))
        · exact own_kept hown0 kS (hpw hown0 (by decide))
        · intro x hx
          have hx' := hmem x hx
          exact ⟨own_kept (hdw x hx') kS (hpw (hdw x hx') (by decide)), fun b hb => .inl (H.out.zd x hx' b hb)⟩
        · exact fun b hb => .inr (OW6.out.lt b hb).1
        · exact fun b hb => .inr (Nat.le_trans HSZ.out (hown.out.lt b hb).1))
end Go.Proofs.Ytdlbccjimdghkaa
