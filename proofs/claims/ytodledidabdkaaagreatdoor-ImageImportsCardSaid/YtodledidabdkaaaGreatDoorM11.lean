/- The map's Copy walked. No condition but that the map lies. The document's example of a map: plain words, with no program in sight. No condition. The document's Same of bytes: walked once. No condition but that the rows lie. A map made since: New and Put. No condition but where the library's variable lies. The law's lives walked: the document's examples are as it says. No condition but where the library's variable lies. -/
import Derived.Test.YtodledidabdkaaaGreatDoorM10
import Derived.Test.YtodledidabdkaaaGreatDoorWP
import Derived.Test.YtodledidabdkaaaGreatDoorM2
import Derived.Test.YtodledidabdkaaaGreatDoorM9
import Derived.Test.YtodledidabdkaaaGreatDoorM6
import Derived.Test.YtodledidabdkaaaGreatDoorM5
set_option linter.unusedVariables false
set_option linter.unusedSimpArgs false
namespace Go.Proofs.YtodledidabdkaaaGreatDoor
open Go.RowKit Go.Shelf V
set_option linter.unusedVariables false
set_option linter.unusedSimpArgs false
theorem u64_info : (Tryz.prog.info? 22).map (fun i => (i.zero, i.size, i.bytes)) = some (some (.int .u64 0), 1, 8) := by kernel_rfl
theorem slot_info : (Tryz.prog.info? 70).map (fun i => (i.zero, i.size, i.bytes)) = some (some (.agg #[.string ByteArray.empty, .string ByteArray.empty]), 2, 32) := by kernel_rfl
theorem clonew_any (b n c : Nat) (news : List Value) (hn : n ≤ 1000000) (hl : news.length = n) (h1 : ∀ u ∈ news, u.oneCell' = true) (w : World) (hc : ∀ j u, news[j]? = some u → w.cell? ⟨b, j, none⟩ = some u) :
    Calls Tryz.prog 60 #[.slice (some ⟨b, 0, none⟩) n c] w fun e w' => ∃ g cap, e = .returned (.slice (some ⟨g, 0, none⟩) n cap) ∧ w'.ownsRow w.heap.size 22 1 (.slice (some ⟨g, 0, none⟩) n cap) n news ∧ Below w.heap.size w w' := by
  obtain ⟨i0, hi, hz0, hz1, hz2⟩ := info_parts u64_info
  have h63 : (9223372036854775807 : Nat) ≤ maxLen := by decide
  have h := AnyE.slices_Clone Tryz.cloneW i0 (.int .u64 0) 1 8 hi hz0 hz1 hz2 rfl (by decide) (fun w => by rw [show (Tryz.cloneW_ren).t 23 = 22 from rfl, Tryz.sizeOf22]) b 0 n c news w (by omega) (by omega) (by omega) (fun j u hj => by rw [Nat.zero_add]; exact hc j u hj) h1
  change Calls Tryz.prog 60 _ _ _ at h
  refine h.mono ?_
  rintro e w' ⟨v', rfl, hr, hne, hb⟩
  rcases hr.2 with ⟨rfl, _⟩ | ⟨g, cap, _, rfl, _⟩
  · exact absurd rfl hne
  · exact ⟨g, cap, rfl, hr, hb⟩
theorem clones_any (b n c : Nat) (news : List Value) (hn : n ≤ 1000000) (hl : news.length = n * 2) (h1 : ∀ u ∈ news, u.oneCell' = true) (w : World) (hc : ∀ j u, news[j]? = some u → w.cell? ⟨b, j, none⟩ = some u) :
    Calls Tryz.prog 63 #[.slice (some ⟨b, 0, none⟩) n c] w fun e w' => ∃ g cap, e = .returned (.slice (some ⟨g, 0, none⟩) n cap) ∧ w'.ownsRow w.heap.size 70 2 (.slice (some ⟨g, 0, none⟩) n cap) n news ∧ Below w.heap.size w w' := by
  obtain ⟨i0, hi, hz0, hz1, hz2⟩ := info_parts slot_info
  have h63 : (9223372036854775807 : Nat) ≤ maxLen := by decide
  have h := AnyE.slices_Clone Tryz.cloneS i0 (.agg #[.string ByteArray.empty, .string ByteArray.empty]) 2 32 hi hz0 hz1 hz2 rfl (by decide) (fun w => by rw [show (Tryz.cloneS_ren).t 23 = 70 from rfl, Tryz.sizeOf70]) b 0 n c news w hl (by omega) (by omega) (fun j u hj => by rw [Nat.zero_add]; exact hc j u hj) h1
  change Calls Tryz.prog 63 _ _ _ at h
  refine h.mono ?_
  rintro e w' ⟨v', rfl, hr, hne, hb⟩
  rcases hr.2 with ⟨rfl, _⟩ | ⟨g, cap, _, rfl, _⟩
  · exact absurd rfl hne
  · exact ⟨g, cap, rfl, hr, hb⟩
set_option maxRecDepth 100000 in
theorem mcopy_any (k0 k1 bm : Nat) (M : Mp) (O : Nat → Prop) (w : World) (hgs : Gs w) (h : Lm k0 k1 bm M O w) :
    Calls Tryz.prog 32 #[.pointer (some ⟨bm, 0, none⟩)] w fun e w' => ∃ bn O', e = .returned (.pointer (some ⟨bn, 0, none⟩)) ∧ Lm k0 k1 bn M O' w' ∧ (∀ b, O' b → w.heap.size ≤ b) ∧ Kp All w w' := by
  obtain ⟨bw, cw, bs, cs, hm, hO⟩ := h.ms
  have hP := h.inv.pm
  have hg := hP.g1
  have HM := hid (mmade_yes hg.1 w hm)
  have HMS := hid hm
  have HL := hid h
  have HG := hid hgs
  have hc0 := blk_cell hm.str
  have hlt := blk_lt hm.str
  have HW := hid (fun (W : World) (k : Kp All w W) => clonew_any bw M.g cw (wcs M.ctrl) (by omega) (by rw [wcs_len, hP.len]; omega) (fun u hu => by
    unfold wcs at hu
    obtain ⟨q, _, rfl⟩ := List.mem_map.1 hu
    rfl) W (fun j u hj => by
      obtain ⟨c1, e1, e2, e3⟩ := (hm.all k).wds
      rw [← e3, List.getElem?_take] at hj
      split at hj
      · rw [blk_cell e1, ← Array.getElem?_toList]; exact hj
      · cases hj))
  have HS := hid (fun (W : World) (k : Kp All w W) => clones_any bs (8 * M.g) cs (scs M.slots) (by omega) (by rw [scs_len, hP.slen]) (fun u hu => by
    unfold scs at hu
    obtain ⟨q, _, hq⟩ := List.mem_flatMap.1 hu
    simp at hq
    rcases hq with rfl | rfl <;> rfl) W (fun j u hj => by
      obtain ⟨c1, e1, e2, e3⟩ := (hm.all k).sls
      rw [← e3, List.getElem?_take] at hj
      split at hj
      · rw [blk_cell e1, ← Array.getElem?_toList]; exact hj
      · cases hj))
  clear hgs h hm
  go_enter Tryz.func32, Tryz.ntmps32
  go_wp2_with fail
  refine HM.out.mono ?_
  rintro e w' ⟨rfl, hw⟩
  subst hw
  go_wp2_with fail
  obtain ⟨W7, hW7⟩ : ∃ W7, W7 = w'.alloc (.cells #[.int .u64 k0, .int .u64 k1, .slice (some ⟨bw, 0, none⟩) M.g cw, .slice (some ⟨bs, 0, none⟩) (8 * M.g) cs, .int .i64 M.cnt, .int .i64 M.tmb] 73) := ⟨_, rfl⟩
  have k7 : Kp All w' W7 := hW7 ▸ Kp.al _ _
  have b7 : W7.heap[w'.heap.size]? = some (.cells #[.int .u64 k0, .int .u64 k1, .slice (some ⟨bw, 0, none⟩) M.g cw, .slice (some ⟨bs, 0, none⟩) (8 * M.g) cs, .int .i64 M.cnt, .int .i64 M.tmb] 73 (0, 0)) := hW7 ▸ blk_new _ _
  have c7 := blk_cell b7
  have c07 := blk_cell (k7.heap HMS.out.str trivial)
  have f7 := blk_free b7
  rw [← hW7]
  have K7 := hid k7
  have B7 := hid b7
  clear hc0 k7 b7 hW7
  go_region_law (first | (refine step_plain rfl ?_; go_simp; refine (HS.out _ (by first | exact KS.out)).mono ?_; rintro e w6 ⟨g6, cap6, rfl, hr6, hb6⟩; have KT := hid (KS.out.trans (Kp.of_below hb6 (Nat.le_refl _))); have HR6 := hid hr6; have B6 := hid ((Kp.of_below hb6 (Nat.le_refl _)).heap BS.out trivial); have K56 := hid (Kp.of_below hb6 (Nat.le_refl _)); have ct := blk_cell ((Kp.of_below hb6 (Nat.le_refl _)).heap BS.out trivial); have ft := blk_free ((Kp.of_below hb6 (Nat.le_refl _)).heap BS.out trivial); clear hr6 hb6; dsimp only) | (refine step_plain rfl ?_; go_simp; refine (HW.out _ (K7.out.drew)).mono ?_; rintro e w5 ⟨g5, cap5, rfl, hr5, hb5⟩; have KS := hid (K7.out.drew.trans (Kp.of_below hb5 (Nat.le_refl _))); have BS := hid ((Kp.of_below hb5 (Nat.le_refl _)).heap (show W7.drew.heap[w'.heap.size]? = _ from B7.out) trivial); have cs5 := blk_cell (KS.out.heap HMS.out.str trivial); have HR5 := hid hr5; clear hr5 hb5; dsimp only))
  all_goals
    go_wp2_with fail
    go_ret
    rcases HR5.out.2 with ⟨e, _⟩ | ⟨x5, y5, cur5, e5, p5, q5, r5, s5, t5, u5⟩
    · cases e
    injection e5 with e5 _ e5c
    injection e5 with e5
    injection e5 with e5
    subst e5 e5c
    rcases HR6.out.2 with ⟨e, _⟩ | ⟨x6, y6, cur6, e6, p6, q6, r6, s6, t6, u6⟩
    · cases e
    injection e6 with e6 _ e6c
    injection e6 with e6
    injection e6 with e6
    subst e6 e6c
    have l5 : g5 < w5.heap.size := blk_lt q5
    have z7 : w'.heap.size < W7.heap.size := blk_lt B7.out
    have hq5 : w'.heap.size < g5 := Nat.lt_of_lt_of_le z7 p5
    have hq6 : g5 < g6 := Nat.lt_of_lt_of_le l5 p6
    have hgz : 0 < w'.heap.size := by obtain ⟨t, fz, e⟩ := HG.out; exact blk_lt e
    have hmx : maxLen = 9223372036854775807 := by decide
    have q5' := K56.out.heap q5 trivial
    refine ⟨w'.heap.size, fun b => b = w'.heap.size ∨ b = g5 ∨ b = g6, rfl, ⟨⟨g5, cap5, g6, cap6, ?_, fun b => Iff.rfl⟩, HL.out.inv, HL.out.h0, HL.out.h1, HL.out.keys⟩, ?_, (KT.out.setNew (Nat.le_refl _) _).setNew (Nat.le_refl _) _⟩
    · exact { str := blk_set (blk_set B6.out 2 _) 3 _
              wds := ⟨cur5, blk_far (blk_far q5' (by simp; omega) _) (by simp; omega) _, by rw [t5, Nat.mul_one], by rw [← u5, Nat.mul_one]⟩
              sls := ⟨cur6, blk_far (blk_far q6 (by simp; omega) _) (by simp; omega) _, t6, u6⟩
              cwl := r5, csl := r6, cwm := by omega, csm := by omega
              d1 := by omega, d2 := by omega, d3 := by omega, z1 := by omega, z2 := by omega, z3 := by omega }
    · rintro b (rfl | rfl | rfl)
      · exact Nat.le_refl _
      · omega
      · omega
end Go.Proofs.YtodledidabdkaaaGreatDoor

namespace Go.Proofs.YtodledidabdkaaaGreatDoor.V
set_option linter.unusedVariables false
set_option linter.unusedSimpArgs false
def txA : Tx := ⟨#[97]⟩
def txB : Tx := ⟨#[98]⟩
def tx1 : Tx := ⟨#[49]⟩
def tx2 : Tx := ⟨#[50]⟩
theorem put_lt {H : Tx → Nat} {M : Mp} (hI : Inv H M) (k v : Tx) (hc : M.cnt < 2000) : Inv H (putP H M k v).1 ∧ (putP H M k v).1.cnt ≤ M.cnt + 1 ∧ ∀ k' v', Has (putP H M k v).1 k' v' ↔ (k' = k ∧ v' = v) ∨ (k' ≠ k ∧ Has M k' v') := by
  obtain ⟨h1, h2⟩ := put_inv hI k v
  rcases h2 with ⟨_, h, _⟩ | ⟨_, _, h3, h4⟩
  · omega
  · refine ⟨h1, ?_, h4⟩
    rw [h3]; split <;> omega
theorem lives_pairs (H : Tx → Nat) : Inv H (putP H (putP H (madeP 1) txB tx2).1 txA tx1).1 ∧ pairsP (putP H (putP H (madeP 1) txB tx2).1 txA tx1).1 = [(txA, tx1), (txB, tx2)] := by
  obtain ⟨i0, _, c0, _, n0⟩ := made_inv H (k := 0) (by omega)
  rw [show 2 ^ 0 = 1 from rfl] at i0 c0 n0
  obtain ⟨i1, c1, m1⟩ := put_lt i0 txB tx2 (by omega)
  obtain ⟨i2, c2, m2⟩ := put_lt i1 txA tx1 (by omega)
  refine ⟨i2, pairs_of i2 ?_ ?_⟩
  · unfold Srt
    refine List.Pairwise.cons ?_ (List.pairwise_singleton _ _)
    intro x hx
    rw [List.mem_singleton] at hx
    subst hx
    decide
  · intro k v
    rw [m2, m1]
    have hab : txB ≠ txA := by intro h; have := congrArg bl h; revert this; decide
    constructor
    · intro h
      rcases List.mem_cons.1 h with e | h
      · injection e with e1 e2; exact .inl ⟨e1, e2⟩
      · rw [List.mem_singleton] at h
        injection h with e1 e2
        exact .inr ⟨by rw [e1]; exact hab, .inl ⟨e1, e2⟩⟩
    · rintro (⟨rfl, rfl⟩ | ⟨_, ⟨rfl, rfl⟩ | ⟨_, h⟩⟩)
      · exact List.mem_cons_self ..
      · exact List.mem_cons_of_mem _ (List.mem_cons_self ..)
      · exact absurd h (n0 _ _)
end Go.Proofs.YtodledidabdkaaaGreatDoor.V

namespace Go.Proofs.YtodledidabdkaaaGreatDoor
open Go.RowKit
set_option linter.unusedVariables false
set_option linter.unusedSimpArgs false
theorem foot_rb {A : Option Addr} {n c : Nat} {xs : By} {w : World} (hn : xs.length = n) (h : Sl A n c 1 (u8s xs) w) : Rb (.slice A n c) xs w := ⟨A, c, by rw [hn], by rw [hn]; exact h⟩
theorem bs_ne2 {s t : ByteArray} (h : s ≠ t) : ¬ s.toList = t.toList := fun e => h (by
  rw [ByteArray.toList_eq, ByteArray.toList_eq] at e
  cases s; cases t
  simp only [Array.toList_inj] at e
  subst e; rfl)
set_option maxRecDepth 100000 in
theorem rsame_any (A B : Option Addr) (n c m d : Nat) (xs ys : By) (hx : xs.length = n) (hy : ys.length = m) (w : World) (h1 : Sl A n c 1 (u8s xs) w) (h2 : Sl B m d 1 (u8s ys) w) :
    Calls Tryz.prog 18 #[.slice A n c, .slice B m d] w fun e w' => e = .returned (.bool (decide (xs = ys))) ∧ w = w' := by
  have e1 := run_conv_row (foot_rb hx h1)
  have e2 := run_conv_row (foot_rb hy h2)
  clear h1 h2
  by_cases he : xs = ys
  · have hd : decide (xs = ys) = true := decide_eq_true he
    rw [hd]
    subst he
    clear hd
    go_enter Tryz.func18, Tryz.ntmps18
    go_wp2_with fail
    go_ret
    exact ⟨by simp, rfl⟩
  · have hd : decide (xs = ys) = false := decide_eq_false he
    have n2 : (xs == ys) = false := beq_eq_false_iff_ne.2 he
    rw [hd]
    clear hd he
    go_enter Tryz.func18, Tryz.ntmps18
    go_wp2_with fail
    go_ret
    exact ⟨rfl, rfl⟩
end Go.Proofs.YtodledidabdkaaaGreatDoor

namespace Go.Proofs.YtodledidabdkaaaGreatDoor
open Go.RowKit Go.Shelf V
set_option linter.unusedVariables false
set_option linter.unusedSimpArgs false
/-- a map made since w lies -/
def Nm (k0 k1 : Nat) (w : World) (bm : Nat) (M : Mp) (W : World) : Prop := ∃ O, Lm k0 k1 bm M O W ∧ (∀ b, O b → w.heap.size ≤ b) ∧ Kp All w W
theorem Nm.kept {k0 k1 bm : Nat} {M : Mp} {w W W' : World} (h : Nm k0 k1 w bm M W) (k : Kp All W W') : Nm k0 k1 w bm M W' := by
  obtain ⟨O, h1, h2, h3⟩ := h
  exact ⟨O, h1.kept k (fun _ _ => trivial), h2, h3.trans k⟩
theorem nm_new (k0 k1 n : Nat) (h0 : k0 < 18446744073709551616) (h1 : k1 < 18446744073709551616) (hn : n ≤ 7) (w W : World) (hk : Kp All w W) (hgs : Gs w) : Calls Tryz.prog 5 #[.agg #[.int .u64 k0, .int .u64 k1], .int .i64 n] W fun e w' => ∃ bm, e = .returned (.pointer (some ⟨bm, 0, none⟩)) ∧ Nm k0 k1 w bm (madeP 1) w' ∧ Kp All W w' := by
  refine (mnew_any k0 k1 n (by omega) W (hgs.kept hk trivial)).mono ?_
  rintro e w' ⟨g, _, _, hg, bm, bw, cw, bs, cs, rfl, b1, b2, b3, hm, hk2⟩
  obtain rfl : g = 1 := hg hn
  obtain ⟨i0, _, _, _, n0⟩ := made_inv (sipP k0 k1) (k := 0) (by omega)
  refine ⟨bm, rfl, ⟨fun b => b = bm ∨ b = bw ∨ b = bs, ⟨⟨bw, cw, bs, cs, hm, fun b => Iff.rfl⟩, i0, h0, h1, fun k v h => absurd h (n0 k v)⟩, ?_, hk.trans hk2⟩, hk2⟩
  have := hk.size
  rintro b (rfl | rfl | rfl) <;> omega
theorem nm_put {k0 k1 bm : Nat} {M : Mp} {w W : World} (key v : Tx) (hkey : key.size ≤ 9000000000000000000) (hgs : Gs w) (h : Nm k0 k1 w bm M W) : Calls Tryz.prog 9 #[.pointer (some ⟨bm, 0, none⟩), .string key, .string v] W fun e w' => e = .returned (.tuple #[.bool (putP (sipP k0 k1) M key v).2.1, .int .i64 ((putP (sipP k0 k1) M key v).2.2 : Nat)]) ∧ Nm k0 k1 w bm (putP (sipP k0 k1) M key v).1 w' := by
  obtain ⟨O, h1, h2, h3⟩ := h
  refine (mput_any k0 k1 bm M O key v hkey W (hgs.kept h3 trivial) h1).mono ?_
  rintro e w' ⟨rfl, O', h4, h5, h6⟩
  have := h3.size
  refine ⟨rfl, O', h4, fun b hb => ?_, h3.then h6 fun b hb _ e => absurd (h2 b e) (by omega)⟩
  rcases Nat.lt_or_ge b W.heap.size with hl | hl
  · exact h2 b (h5 b hl hb)
  · omega
theorem Nm.base {k0 k1 bm : Nat} {M : Mp} {w w1 W : World} (h : Nm k0 k1 w1 bm M W) (k : Kp All w w1) : Nm k0 k1 w bm M W := by
  obtain ⟨O, h1, h2, h3⟩ := h
  exact ⟨O, h1, fun b hb => Nat.le_trans k.size (h2 b hb), k.trans h3⟩
theorem Nm.old {k0 k1 bm : Nat} {M : Mp} {w W : World} (h : Nm k0 k1 w bm M W) : Kp All w W := by
  obtain ⟨O, h1, h2, h3⟩ := h
  exact h3
end Go.Proofs.YtodledidabdkaaaGreatDoor

namespace Go.Proofs.YtodledidabdkaaaGreatDoor
open Go.RowKit Go.Shelf V
set_option linter.unusedVariables false
set_option linter.unusedSimpArgs false
theorem imgL : encImg [(txA, tx1), (txB, tx2)] = [2, 1, 97, 1, 49, 1, 98, 1, 50] := by decide +kernel
set_option maxRecDepth 100000 in
set_option maxHeartbeats 1000000 in
theorem lives07_any (w : World) (hgs : Gs w) : Calls Tryz.prog 8 #[] w fun e w' => e = .returned (.bool true) ∧ Kp All w w' := by
  have HG := hid hgs
  clear hgs
  go_enter Tryz.func8, Tryz.ntmps8
  go_wp2_with fail
  refine (nm_new 0 0 0 (by decide) (by decide) (by omega) w _ (Kp.refl _ _) HG.out).mono ?_
  rintro e w1 ⟨bm, rfl, hm1, _⟩
  have HM1 := hid hm1
  clear hm1
  go_wp2_with fail
  refine (nm_put txB tx2 (by decide) HG.out HM1.out).mono ?_
  rintro e w2 ⟨rfl, hm2⟩
  have HM2 := hid hm2
  clear hm2
  go_wp2_with fail
  refine (nm_put txA tx1 (by decide) HG.out HM2.out).mono ?_
  rintro e w3 ⟨rfl, hm3⟩
  obtain ⟨M, hM⟩ : ∃ M, (putP (sipP 0 0) (putP (sipP 0 0) (madeP 1) txB tx2).1 txA tx1).1 = M := ⟨_, rfl⟩
  have hP := (lives_pairs (sipP 0 0)).2
  rw [hM] at hm3 hP
  have HM3 := hid hm3
  have HP := hid hP
  clear hm3 hM hP
  go_wp2_with fail
  obtain ⟨O, hL, hO, hk⟩ := HM3.out
  have HL := hid hL
  have HO := hid hO
  have HK := hid hk
  clear hL hO hk
  refine (irange_any 0 0 (some bm) M O txA ByteArray.empty 1 w3 HL.out).mono ?_
  rintro e w4 ⟨v4, rfl, hr4, k4⟩
  rw [HP.out] at hr4
  have hr4' : w4.ownsRow w3.heap.size 35 2 v4 1 [.string txA, .string tx1] := hr4
  rcases own_at hr4' with ⟨_, e, _⟩ | ⟨g4, cap4, cur4, rfl, hb4, hg4, hat4⟩
  · cases e
  have HB4 := hid hb4
  have HA4 := hid (And.intro (hat4 0 _ rfl) (hat4 1 _ rfl))
  have HK4 := hid k4
  clear k4 hr4 hr4' hb4 hat4 hg4
  go_wp2_with fail
  refine (iexport_any 0 0 (some bm) M O w4 (by rw [HP.out]; intro x hx; rcases List.mem_cons.1 hx with rfl | hx <;> (try rw [List.mem_singleton] at hx) <;> (try subst hx) <;> decide) (HL.out.kept HK4.out (fun _ _ => trivial))).mono ?_
  rintro e w5 ⟨⟨v5, rfl, hr5⟩, k5⟩
  rw [HP.out, imgL] at hr5
  obtain ⟨A5, c5, rfl⟩ := own_shape hr5
  have HR5 := hid hr5
  have HK5 := hid k5
  clear hr5 k5
  go_wp2_with fail
  obtain ⟨w6, hw6⟩ : ∃ w6, w5.alloc (Obj.cells #[Value.int IntKind.u8 2, Value.int IntKind.u8 1, Value.int IntKind.u8 97, Value.int IntKind.u8 1, Value.int IntKind.u8 49, Value.int IntKind.u8 1, Value.int IntKind.u8 98, Value.int IntKind.u8 1, Value.int IntKind.u8 50] 5) = w6 := ⟨_, rfl⟩
  have k6 : Kp All w5 w6 := hw6 ▸ Kp.al _ _
  have b6 : w6.heap[w5.heap.size]? = some (Obj.cells #[Value.int IntKind.u8 2, Value.int IntKind.u8 1, Value.int IntKind.u8 97, Value.int IntKind.u8 1, Value.int IntKind.u8 49, Value.int IntKind.u8 1, Value.int IntKind.u8 98, Value.int IntKind.u8 1, Value.int IntKind.u8 50] 5) := by rw [← hw6]; exact blk_new _ _
  have hs6 : Sl (some ⟨w5.heap.size, 0, none⟩) 9 9 1 (u8s [2, 1, 97, 1, 49, 1, 98, 1, 50]) w6 := by
    refine ⟨rfl, Nat.le_refl _, fun _ => ⟨_, 0, rfl, fun j u hj => ?_⟩⟩
    rw [show u8s [2, 1, 97, 1, 49, 1, 98, 1, 50] = (#[Value.int IntKind.u8 2, Value.int IntKind.u8 1, Value.int IntKind.u8 97, Value.int IntKind.u8 1, Value.int IntKind.u8 49, Value.int IntKind.u8 1, Value.int IntKind.u8 98, Value.int IntKind.u8 1, Value.int IntKind.u8 50] : Array Value).toList from by kernel_rfl] at hj
    rw [Nat.zero_add, blk_cell b6, ← Array.getElem?_toList]
    exact hj
  rw [hw6]
  have HK6 := hid k6
  have HR6 := hid (own_sl (own_kept HR5.out k6 (fun _ _ => trivial)) (Nat.le_refl _)).1
  have HS6 := hid hs6
  clear hw6 k6 b6 hs6
  refine (rsame_any A5 _ 9 c5 9 9 [2, 1, 97, 1, 49, 1, 98, 1, 50] _ rfl rfl w6 HR6.out HS6.out).mono ?_
  rintro e w7 ⟨rfl, hw⟩
  subst hw
  rw [show decide (([2, 1, 97, 1, 49, 1, 98, 1, 50] : By) = [2, 1, 97, 1, 49, 1, 98, 1, 50]) = true from rfl]
  have k46 := HK5.out.trans HK6.out
  have p1 : w6.cell? ⟨g4, 0, none⟩ = some (.string ⟨#[97]⟩) := k46.cell HA4.out.1 trivial
  have p2 : w6.cell? ⟨g4, 1, none⟩ = some (.string ⟨#[49]⟩) := k46.cell HA4.out.2 trivial
  have hlt4 := World.block_lt_of_cell? _ _ p1
  clear k46
  go_wp2_with fail
  have HK36 := hid (HK4.out.trans (HK5.out.trans HK6.out))
  have HL6 := hid (HL.out.kept HK36.out (fun _ _ => trivial))
  have HK06 := hid (HK.out.trans HK36.out)
  refine (mcopy_any 0 0 bm M O w6 (HG.out.kept HK06.out trivial) HL6.out).mono ?_
  rintro e w8 ⟨bn, O', rfl, hL8, _, k8⟩
  have HL8 := hid hL8
  have HK8 := hid k8
  clear hL8 k8
  go_wp2_with fail
  refine (isame_any 0 0 0 0 (some bm) (some bn) M M O O' w8 (HL6.out.kept HK8.out (fun _ _ => trivial)) HL8.out).mono ?_
  rintro e w9 ⟨rfl, k9⟩
  have HK9 := hid k9
  clear k9
  rw [show decide (pairsP M = pairsP M) = true from decide_eq_true rfl]
  go_wp2_with fail
  go_ret
  exact ⟨rfl, HK06.out.trans (HK8.out.trans HK9.out)⟩
end Go.Proofs.YtodledidabdkaaaGreatDoor
