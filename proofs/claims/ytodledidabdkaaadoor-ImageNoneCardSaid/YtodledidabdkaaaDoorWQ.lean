/- The map's Copy walked. No condition but that the map lies. -/
import Derived.Test.YtodledidabdkaaaDoorWO
import Derived.Test.YtodledidabdkaaaDoorWP
namespace Go.Proofs.YtodledidabdkaaaDoor
open Go.RowKit Go.Shelf V
set_option linter.unusedVariables false
set_option linter.unusedSimpArgs false
theorem u64_info : (Tryd.prog.info? 26).map (fun i => (i.zero, i.size, i.bytes)) = some (some (.int .u64 0), 1, 8) := by kernel_rfl
theorem slot_info : (Tryd.prog.info? 70).map (fun i => (i.zero, i.size, i.bytes)) = some (some (.agg #[.string ByteArray.empty, .string ByteArray.empty]), 2, 32) := by kernel_rfl
theorem clonew_any (b n c : Nat) (news : List Value) (hn : n ≤ 1000000) (hl : news.length = n) (h1 : ∀ u ∈ news, u.oneCell' = true) (w : World) (hc : ∀ j u, news[j]? = some u → w.cell? ⟨b, j, none⟩ = some u) :
    Calls Tryd.prog 52 #[.slice (some ⟨b, 0, none⟩) n c] w fun e w' => ∃ g cap, e = .returned (.slice (some ⟨g, 0, none⟩) n cap) ∧ w'.ownsRow w.heap.size 26 1 (.slice (some ⟨g, 0, none⟩) n cap) n news ∧ Below w.heap.size w w' := by
  obtain ⟨i0, hi, hz0, hz1, hz2⟩ := info_parts u64_info
  have h63 : (9223372036854775807 : Nat) ≤ maxLen := by decide
  have h := AnyE.slices_Clone Tryd.cloneW i0 (.int .u64 0) 1 8 hi hz0 hz1 hz2 rfl (by decide) (fun w => by rw [show (Tryd.cloneW_ren).t 23 = 26 from rfl, Tryd.sizeOf26]) b 0 n c news w (by omega) (by omega) (by omega) (fun j u hj => by rw [Nat.zero_add]; exact hc j u hj) h1
  change Calls Tryd.prog 52 _ _ _ at h
  refine h.mono ?_
  rintro e w' ⟨v', rfl, hr, hne, hb⟩
  rcases hr.2 with ⟨rfl, _⟩ | ⟨g, cap, _, rfl, _⟩
  · exact absurd rfl hne
  · exact ⟨g, cap, rfl, hr, hb⟩
theorem clones_any (b n c : Nat) (news : List Value) (hn : n ≤ 1000000) (hl : news.length = n * 2) (h1 : ∀ u ∈ news, u.oneCell' = true) (w : World) (hc : ∀ j u, news[j]? = some u → w.cell? ⟨b, j, none⟩ = some u) :
    Calls Tryd.prog 53 #[.slice (some ⟨b, 0, none⟩) n c] w fun e w' => ∃ g cap, e = .returned (.slice (some ⟨g, 0, none⟩) n cap) ∧ w'.ownsRow w.heap.size 70 2 (.slice (some ⟨g, 0, none⟩) n cap) n news ∧ Below w.heap.size w w' := by
  obtain ⟨i0, hi, hz0, hz1, hz2⟩ := info_parts slot_info
  have h63 : (9223372036854775807 : Nat) ≤ maxLen := by decide
  have h := AnyE.slices_Clone Tryd.cloneS i0 (.agg #[.string ByteArray.empty, .string ByteArray.empty]) 2 32 hi hz0 hz1 hz2 rfl (by decide) (fun w => by rw [show (Tryd.cloneS_ren).t 23 = 70 from rfl, Tryd.sizeOf70]) b 0 n c news w hl (by omega) (by omega) (fun j u hj => by rw [Nat.zero_add]; exact hc j u hj) h1
  change Calls Tryd.prog 53 _ _ _ at h
  refine h.mono ?_
  rintro e w' ⟨v', rfl, hr, hne, hb⟩
  rcases hr.2 with ⟨rfl, _⟩ | ⟨g, cap, _, rfl, _⟩
  · exact absurd rfl hne
  · exact ⟨g, cap, rfl, hr, hb⟩
set_option maxRecDepth 100000 in
theorem mcopy_any (k0 k1 bm : Nat) (M : Mp) (O : Nat → Prop) (w : World) (hgs : Gs w) (h : Lm k0 k1 bm M O w) :
    Calls Tryd.prog 32 #[.pointer (some ⟨bm, 0, none⟩)] w fun e w' => ∃ bn O', e = .returned (.pointer (some ⟨bn, 0, none⟩)) ∧ Lm k0 k1 bn M O' w' ∧ (∀ b, O' b → w.heap.size ≤ b) ∧ Kp All w w' := by
  obtain ⟨bw, cw, bs, cs, hm, hO⟩ := h.ms
  have hP := h.inv.pm
  have hg := hP.g1
  have HM := hid (mmade_yes hg.1 w hm)
  have HMS := hid hm
  have HL := hid h
  have HG := hid hgs
  have hc0 := blk_cell hm.str
  have hlt := blk_lt hm.str
  have HW := hid (fun (W : World) (k : Kp All w W) => clonew_any bw M.g cw (wcs M.ctrl) (by omega) (by rw [wcs_len, hP.len]; omega) (fun u hu => by
    unfold wcs at hu
    obtain ⟨q, _, rfl⟩ := List.mem_map.1 hu
    rfl) W (fun j u hj => by
      obtain ⟨c1, e1, e2, e3⟩ := (hm.all k).wds
      rw [← e3, List.getElem?_take] at hj
      split at hj
      · rw [blk_cell e1, ← Array.getElem?_toList]; exact hj
      · cases hj))
  have HS := hid (fun (W : World) (k : Kp All w W) => clones_any bs (8 * M.g) cs (scs M.slots) (by omega) (by rw [scs_len, hP.slen]) (fun u hu => by
    unfold scs at hu
    obtain ⟨q, _, hq⟩ := List.mem_flatMap.1 hu
    simp at hq
    rcases hq with rfl | rfl <;> rfl) W (fun j u hj => by
      obtain ⟨c1, e1, e2, e3⟩ := (hm.all k).sls
      rw [← e3, List.getElem?_take] at hj
      split at hj
      · rw [blk_cell e1, ← Array.getElem?_toList]; exact hj
      · cases hj))
  clear hgs h hm
  go_enter Tryd.func32, Tryd.ntmps32
  go_wp2_with fail
  refine HM.out.mono ?_
  rintro e w' ⟨rfl, hw⟩
  subst hw
  go_wp2_with fail
  obtain ⟨W7, hW7⟩ : ∃ W7, W7 = w'.alloc (.cells #[.int .u64 k0, .int .u64 k1, .slice (some ⟨bw, 0, none⟩) M.g cw, .slice (some ⟨bs, 0, none⟩) (8 * M.g) cs, .int .i64 M.cnt, .int .i64 M.tmb] 74) := ⟨_, rfl⟩
  have k7 : Kp All w' W7 := hW7 ▸ Kp.al _ _
  have b7 : W7.heap[w'.heap.size]? = some (.cells #[.int .u64 k0, .int .u64 k1, .slice (some ⟨bw, 0, none⟩) M.g cw, .slice (some ⟨bs, 0, none⟩) (8 * M.g) cs, .int .i64 M.cnt, .int .i64 M.tmb] 74 (0, 0)) := hW7 ▸ blk_new _ _
  have c7 := blk_cell b7
  have c07 := blk_cell (k7.heap HMS.out.str trivial)
  have f7 := blk_free b7
  rw [← hW7]
  have K7 := hid k7
  have B7 := hid b7
  clear hc0 k7 b7 hW7
  go_region_law (first | (refine step_plain rfl ?_; go_simp; refine (HS.out _ (by first | exact KS.out)).mono ?_; rintro e w6 ⟨g6, cap6, rfl, hr6, hb6⟩; have KT := hid (KS.out.trans (Kp.of_below hb6 (Nat.le_refl _))); have HR6 := hid hr6; have B6 := hid ((Kp.of_below hb6 (Nat.le_refl _)).heap BS.out trivial); have K56 := hid (Kp.of_below hb6 (Nat.le_refl _)); have ct := blk_cell ((Kp.of_below hb6 (Nat.le_refl _)).heap BS.out trivial); have ft := blk_free ((Kp.of_below hb6 (Nat.le_refl _)).heap BS.out trivial); clear hr6 hb6; dsimp only) | (refine step_plain rfl ?_; go_simp; refine (HW.out _ (K7.out.drew)).mono ?_; rintro e w5 ⟨g5, cap5, rfl, hr5, hb5⟩; have KS := hid (K7.out.drew.trans (Kp.of_below hb5 (Nat.le_refl _))); have BS := hid ((Kp.of_below hb5 (Nat.le_refl _)).heap (show W7.drew.heap[w'.heap.size]? = _ from B7.out) trivial); have cs5 := blk_cell (KS.out.heap HMS.out.str trivial); have HR5 := hid hr5; clear hr5 hb5; dsimp only))
  all_goals
    go_wp2_with fail
    go_ret
    rcases HR5.out.2 with ⟨e, _⟩ | ⟨x5, y5, cur5, e5, p5, q5, r5, s5, t5, u5⟩
    · cases e
    injection e5 with e5 _ e5c
    injection e5 with e5
    injection e5 with e5
    subst e5 e5c
    rcases HR6.out.2 with ⟨e, _⟩ | ⟨x6, y6, cur6, e6, p6, q6, r6, s6, t6, u6⟩
    · cases e
    injection e6 with e6 _ e6c
    injection e6 with e6
    injection e6 with e6
    subst e6 e6c
    have l5 : g5 < w5.heap.size := blk_lt q5
    have z7 : w'.heap.size < W7.heap.size := blk_lt B7.out
    have hq5 : w'.heap.size < g5 := Nat.lt_of_lt_of_le z7 p5
    have hq6 : g5 < g6 := Nat.lt_of_lt_of_le l5 p6
    have hgz : 0 < w'.heap.size := by obtain ⟨t, fz, e⟩ := HG.out; exact blk_lt e
    have hmx : maxLen = 9223372036854775807 := by decide
    have q5' := K56.out.heap q5 trivial
    refine ⟨w'.heap.size, fun b => b = w'.heap.size ∨ b = g5 ∨ b = g6, rfl, ⟨⟨g5, cap5, g6, cap6, ?_, fun b => Iff.rfl⟩, HL.out.inv, HL.out.h0, HL.out.h1, HL.out.keys⟩, ?_, (KT.out.setNew (Nat.le_refl _) _).setNew (Nat.le_refl _) _⟩
    · exact { str := blk_set (blk_set B6.out 2 _) 3 _
              wds := ⟨cur5, blk_far (blk_far q5' (by simp; omega) _) (by simp; omega) _, by rw [t5, Nat.mul_one], by rw [← u5, Nat.mul_one]⟩
              sls := ⟨cur6, blk_far (blk_far q6 (by simp; omega) _) (by simp; omega) _, t6, u6⟩
              cwl := r5, csl := r6, cwm := by omega, csm := by omega
              d1 := by omega, d2 := by omega, d3 := by omega, z1 := by omega, z2 := by omega, z3 := by omega }
    · rintro b (rfl | rfl | rfl)
      · exact Nat.le_refl _
      · omega
      · omega
end Go.Proofs.YtodledidabdkaaaDoor
