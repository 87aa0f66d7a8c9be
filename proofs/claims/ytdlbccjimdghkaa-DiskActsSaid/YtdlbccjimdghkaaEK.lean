/- The disk: Rename, walked once. No condition on the disk but that it lies as Dk says. -/
import Derived.Test.YtdlbccjimdghkaaEJ
namespace Go.Proofs.Ytdlbccjimdghkaa
open Go.RowKit
set_option linter.unusedVariables false
set_option linter.unusedSimpArgs false
def ren1D (D : DS) (a b : Nm) (s : By) : DS := if a = b then D else (D.gone b).ren a b s
set_option maxRecDepth 100000 in
set_option maxHeartbeats 1000000 in
theorem rename1_any (p : Nat) (ro : Nat → Role) (D : DS) (a b : Nm) (s : By) (ab bb db fb : Nat) (hbB : D.B.length ≤ 1073741824) (w : World) (m : Nat) (fp : Nm → Nat) (bv : Value) (BV : List (Nm × By × Value)) (h : Dk0 w p ro D m fp bv BV) (hs : aget D.F a = some s)
    (b1 : w.heap[ab]? = some (.cells #[.string a] 9 (0, 0))) (b2 : w.heap[bb]? = some (.cells #[.string b] 9 (0, 0))) (b3 : w.heap[db]? = some (.cells #[.pointer (some ⟨p, 0, none⟩)] 27 (0, 0))) (b4 : w.heap[fb]? = some (.cells #[.pointer (some ⟨fp a, 0, none⟩)] 62 (0, 0)))
    (r1 : ro ab = .none) (r2 : ro bb = .none) (r3 : ro db = .none) (r4 : ro fb = .none) :
    Calls Try.prog 46 #[.pointer (some ⟨ab, 0, none⟩), .pointer (some ⟨bb, 0, none⟩), .pointer (some ⟨db, 0, none⟩), .pointer (some ⟨fb, 0, none⟩)] w (Op1 w ro p 0 (ren1D D a b s)) := by
  have H := hid h
  have c1 := blk_cell b1; have c2 := blk_cell b2; have c3 := blk_cell b3; have c4 := blk_cell b4
  by_cases hab : a = b
  · subst hab
    clear h hs b1 b2 b3 b4
    go_enter Try.func46, Try.ntmps46
    go_wp2_with fail
    go_ret
    refine ⟨rfl, ?_⟩
    rw [ren1D, if_pos rfl]
    exact Dk.nx ⟨m, fp, bv, BV, H.out⟩ (Kp.refl _ _)
  · have hne := bs_ne hab
    have hne2 : (a.toList == b.toList) = false := beq_eq_false_iff_ne.2 hne
    have hm : ro m = .map := h.rm
    have n1 : ab ≠ m := fun e => by rw [e, hm] at r1; cases r1
    have n2 : bb ≠ m := fun e => by rw [e, hm] at r2; cases r2
    have n3 : db ≠ m := fun e => by rw [e, hm] at r3; cases r3
    have n4 : fb ≠ m := fun e => by rw [e, hm] at r4; cases r4
    have hpm : p ≠ m := fun e => by have := h.rp; rw [e, h.rm] at this; cases this
    have HAB := hid hab; have HS := hid hs
    have B1 := hid b1; have B2 := hid b2; have B3 := hid b3; have B4 := hid b4
    have R1 := hid r1; have R2 := hid r2; have R3 := hid r3; have R4 := hid r4
    clear h hs b1 b2 b3 b4 r1 r2 r3 r4 hm hab
    go_enter Try.func46, Try.ntmps46
    go_wp2_with fail
    refine (gone_any p ro D b m fp bv BV hbB w H.out).mono ?_
    rintro e W ⟨rfl, ⟨bv2, BV2, hD2⟩, kG⟩
    have b1 := kG.heap B1.out R1.out
    have b2 := kG.heap B2.out R2.out
    have b3 := kG.heap B3.out R3.out
    have b4 := kG.heap B4.out R4.out
    have c1 := blk_cell b1; have c2 := blk_cell b2; have c3 := blk_cell b3; have c4 := blk_cell b4
    have c5 := blk_cell hD2.cell
    unfold dcs at c5
    have H2 := hid hD2; have KG := hid kG
    have B1' := hid b1; have B2' := hid b2; have B3' := hid b3; have B4' := hid b4; have B5 := hid hD2.cell
    clear hD2 kG b1 b2 b3 b4
    go_wp2_with fail
    refine RegionLast.wp_region_end_quiet (by kernel_rfl) (by kernel_rfl) (by kernel_rfl) ?_; simp only [List.length_cons, List.length_nil, Nat.zero_add, Nat.reduceAdd, Nat.reduceSub, List.take_succ_cons, List.take_zero, List.drop_succ_cons, List.drop_zero]
    repeat (go_big_quiet_step (fail))
    refine wpQuiet_nil ?_; intro _ hw'; obtain ⟨nq, hw''⟩ := hw'; subst hw''
    generalize nq = qa
    go_wp2_with (at_delete; go_loud (refine wpList_mapdel strKey Try.underlying54 (L := (D.gone b).F.map fun x => (x.1, Value.pointer (some ⟨fp x.1, 0, none⟩))) (by exact H2.out.map.all ((Kp.refl _ _).drewN _)) a rfl _ _ rfl rfl rfl ?_); intro w3 hm3 hk3; have k3 : Kp (fun b => b ≠ m) W w3 := ((Kp.refl (fun b => b ≠ m) W).drewN qa).trans hk3; have d1 := blk_cell (k3.heap B1'.out n1); have d2 := blk_cell (k3.heap B2'.out n2); have d3 := blk_cell (k3.heap B3'.out n3); have d4 := blk_cell (k3.heap B4'.out n4); have d5 := blk_cell (k3.heap B5.out hpm); unfold dcs at d5; have K3 := hid k3; have M3 := hid hm3; clear k3 hm3 hk3)
    simp only [Act.put]
    refine RegionLast.wp_region_end_quiet (by kernel_rfl) (by kernel_rfl) (by kernel_rfl) ?_; simp only [List.length_cons, List.length_nil, Nat.zero_add, Nat.reduceAdd, Nat.reduceSub, List.take_succ_cons, List.take_zero, List.drop_succ_cons, List.drop_zero]
    repeat (go_big_quiet_step (fail))
    refine wpQuiet_nil ?_; intro _ hw'; obtain ⟨nq, hw''⟩ := hw'; subst hw''
    go_wp2_with (at_mapUpdate; go_loud (refine wpList_mapset strKey Try.underlying54 (L := adel ((D.gone b).F.map fun x => (x.1, Value.pointer (some ⟨fp x.1, 0, none⟩))) a) (by exact M3.out.all ((Kp.refl _ _).drewN _)) b (.pointer (some ⟨fp a, 0, none⟩)) rfl _ _ _ rfl rfl rfl rfl ?_); intro w4 hm4 hk4; have k4 : Kp (fun b => b ≠ m) W w4 := K3.out.trans (((Kp.refl (fun b => b ≠ m) w3).drewN nq).trans hk4); have K4 := hid k4; have M4 := hid hm4; clear k4 hm4 hk4)
    go_ret
    refine ⟨rfl, ?_⟩
    rw [ren1D, if_neg HAB.out]
    refine Nx.from KG.out (H2.out.renamed (s := s) ?_ HAB.out (aget_adel_same D.F b) M4.out K4.out)
    have h1 : aget (adel D.F b) a = some s := by rw [aget_adel_other _ _ _ HAB.out]; exact HS.out
    exact aget_mem h1
end Go.Proofs.Ytdlbccjimdghkaa
