/- The disk: Create of a name that is there, and of any name: walked once. No condition on the disk but that it lies as Dk says. -/
import Derived.Test.YtdlbccjimdghkaaDZ
namespace Go.Proofs.Ytdlbccjimdghkaa
open Go.RowKit
set_option linter.unusedVariables false
theorem Nx.from {w w1 w2 : World} {ro : Nat → Role} {p : Nat} {D' : DS} (k : Kp (fun b => ro b = .none) w w1) (h : Nx w1 ro p D' w2) : Nx w ro p D' w2 := Nx.trans ⟨ro, fun _ _ h => h, k, h⟩
set_option maxRecDepth 100000 in
set_option maxHeartbeats 1000000 in
theorem create1_old (p : Nat) (ro : Nat → Role) (D : DS) (n : Nm) (s : By) (db nb : Nat) (hbB : D.B.length ≤ 1073741824) (w : World) (h : Dk w p ro D) (hn : aget D.F n = some s)
    (b4 : w.heap[nb]? = some (.cells #[.string n] 9 (0, 0))) (b5 : w.heap[db]? = some (.cells #[.pointer (some ⟨p, 0, none⟩)] 27 (0, 0))) (r4 : ro nb = .none) (r5 : ro db = .none) :
    Calls Try.prog 35 #[.pointer (some ⟨db, 0, none⟩), .pointer (some ⟨nb, 0, none⟩)] w (Op1 w ro p 0 ((D.gone n).add n)) := by
  obtain ⟨m, fp, bv, BV, h⟩ := h
  have H := hid h
  have b1 := h.cell
  have hs := aget_mem hn
  have hnd : (D.F.map (·.1)).Nodup := by
    have := h.map.nodup strKey
    simpa [List.map_map, Function.comp_def] using this
  have hlt : Hid ((usedOf (D.gone n).F (D.gone n).B : Int) < (D.gone n).blocks) := hid (by
    have := gone_used (B := D.B) hnd hs
    have h2 := h.us
    have h3 : 0 < needs (s.length + moreOf D.B n) := by unfold needs; omega
    show ((usedOf (adel D.F n) (adel D.B n) : Nat) : Int) < D.blocks
    omega)
  have HG : Hid (aget (D.gone n).F n = none) := hid (aget_adel_same D.F n)
  have hv : (aget (D.F.map fun x => (x.1, Value.pointer (some ⟨fp x.1, 0, none⟩))) n).getD (.pointer none) = .pointer (some ⟨fp n, 0, none⟩) := by rw [aget_keys D.F (fun x => Value.pointer (some ⟨fp x, 0, none⟩)), hn]; rfl
  have hz : ∀ w : World, (zeroValue 62).run Try.prog w = .ok (.pointer none) w := fun w => by kernel_rfl
  have hlk := fun k => ((h.map.all ((Kp.refl All w).drewN k)).lookup strKey Try.underlying54 n (.pointer none) (hz _)).2
  rw [hv] at hlk
  have c1 := blk_cell b1; have c4 := blk_cell b4; have c5 := blk_cell b5
  have B4 := hid b4; have B5 := hid b5
  have hmm : ro m = .map := h.rm
  have hpm : p ≠ m := fun e => by have := h.rp; rw [e, h.rm] at this; cases this
  have n4m : nb ≠ m := fun e => by rw [e, h.rm] at r4; cases r4
  have n5m : db ≠ m := fun e => by rw [e, h.rm] at r5; cases r5
  have R4 := hid r4; have R5 := hid r5; have RM := hid hmm
  unfold dcs at c1
  clear h hn hv b1 b4 b5 hs hnd r4 r5 hmm
  go_enter Try.func35, Try.ntmps35
  go_wp2_with fail
  go_quiet (fail)
  generalize nq = qa
  go_wp2_with fail
  refine (gone_any p ro D n m fp bv BV hbB (w.drewN qa) (H.out.kept ((Kp.refl All w).drewN qa) fun _ _ => trivial)).mono ?_
  rintro e W ⟨rfl, ⟨bv2, BV2, hD2⟩, kG⟩
  have H2 := hid hD2
  have kG' : Kp (fun b => ro b = .none) w W := ((Kp.refl _ w).drewN qa).trans kG
  have KG := hid kG'
  have b1 := hD2.cell
  have b4 := kG'.heap B4.out R4.out
  have b5 := kG'.heap B5.out R5.out
  obtain ⟨u, hu⟩ : ∃ u, usedOf (D.gone n).F (D.gone n).B = u := ⟨_, rfl⟩
  have HU := hid hu
  rw [hu] at b1
  have hbl := hD2.us
  have hbl2 := hD2.bl
  rw [hu] at hbl
  have c1 := blk_cell b1; have c4 := blk_cell b4; have c5 := blk_cell b5
  have f1 := blk_free b1
  have B1 := hid b1; have B4' := hid b4; have B5' := hid b5
  have hp : p < W.heap.size := blk_lt b1
  have hm : m < W.heap.size := hD2.lt m (by rw [RM.out]; decide)
  have hdb : db < W.heap.size := blk_lt b5
  have hnb : nb < W.heap.size := blk_lt b4
  have k1 : Kp All W (W.alloc (.cells #[.slice none 0 0, .int .i64 0] 65)).drew := ((Kp.refl _ _).alloc _).drew
  have b1' := k1.heap b1 trivial
  have b4' := k1.heap b4 trivial
  have b5' := k1.heap b5 trivial
  have b6 : (W.alloc (.cells #[.slice none 0 0, .int .i64 0] 65)).drew.heap[W.heap.size]? = some (.cells #[.slice none 0 0, .int .i64 0] 65) := blk_new W (.cells #[.slice none 0 0, .int .i64 0] 65)
  obtain ⟨w3, hr3, hm3, hk3⟩ := KMap.update2 strKey Try.underlying54 (hD2.map.all k1) n (.pointer (some ⟨W.heap.size, 0, none⟩))
  have cA := blk_cell (hk3.heap b1' hpm)
  have cB := blk_cell (hk3.heap b4' n4m)
  have cC := blk_cell (hk3.heap b5' n5m)
  have fA := blk_free (hk3.heap b1' hpm)
  have cA2 := blk_cell b1'
  have cB2 := blk_cell b4'
  have cC2 := blk_cell b5'
  have hWm : W.heap.size ≠ m := by omega
  have B13 := hid (hk3.heap b1' hpm)
  have B63 := hid (hk3.heap b6 hWm)
  have K13 := hid k1; have M3 := hid hm3; have HK3 := hid hk3
  unfold dcs at c1 cA cA2
  obtain ⟨blks, hblks⟩ : ∃ z, (D.gone n).blocks = z := ⟨_, rfl⟩
  clear hD2 kG kG' hu b1 b4 b5 b1' b4' b5' b6 k1 hm3 hk3 hlk
  go_wp2_with fail
  go_region_held3 (fun w' => (∀ i, w'.cell? ⟨p, i, none⟩ = (#[.int .i64 (D.gone n).blocks, .int .i64 u, .map (some m), bv2, .bool (D.gone n).off, .int .i64 (D.gone n).ops, .int .i64 (D.gone n).fails, .int .i64 (D.gone n).keep] : Array Value)[i]?) ∧ (∀ i, w'.cell? ⟨nb, i, none⟩ = (#[.string n] : Array Value)[i]?) ∧ (∀ i, w'.cell? ⟨db, i, none⟩ = (#[.pointer (some ⟨p, 0, none⟩)] : Array Value)[i]?))
    (first | exact ⟨c1, c4, c5⟩ | exact ⟨cA2, cB2, cC2⟩ | exact ⟨cA, cB, cC⟩)
    (fail)
  go_wp2_with fail
  go_ret
  have hcellF := blk_set B13.out 1 (.int .i64 ((u : Int) + 1))
  refine ⟨rfl, Nx.from KG.out ?_⟩
  have hl := hlt.out
  rw [HU.out] at hl
  refine H2.out.added (N := W.heap.size) HG.out (Nat.le_refl _) ?_ (M3.out.kept (S := fun z => z ≠ p) ((Kp.refl _ _).setOut (by simp) _) (Ne.symm hpm)) (blk_far B63.out (by simp; omega) _) (((K13.out.mono fun _ _ _ => trivial).trans (HK3.out.mono fun z _ hz => hz.2)).setOut (by simp) _) (by rw [HU.out]; exact hl)
  rw [HU.out]
  exact hcellF
end Go.Proofs.Ytdlbccjimdghkaa
