/- The disk: gone, walked once. No condition on the disk but that it lies as Dk says. -/
import Derived.Test.YtdlbccjimdghkaaDY
namespace Go.Proofs.Ytdlbccjimdghkaa
open Go.RowKit
set_option linter.unusedVariables false
set_option linter.unusedSimpArgs false
def Gone (w : World) (ro : Nat → Role) (p : Nat) (D : DS) (n : Nm) (m : Nat) (fp : Nm → Nat) (e : Ending) (w' : World) : Prop :=
  e = .returned (.tuple #[]) ∧ (∃ bv BV, Dk0 w' p ro (D.gone n) m fp bv BV) ∧ Kp (fun b => ro b = .none) w w'
set_option maxRecDepth 100000 in
set_option maxHeartbeats 2000000 in
theorem gone_any (p : Nat) (ro : Nat → Role) (D : DS) (n : Nm) (m : Nat) (fp : Nm → Nat) (bv : Value) (BV : List (Nm × By × Value)) (hbl : D.B.length ≤ 1073741824) (w : World) (h : Dk0 w p ro D m fp bv BV) :
    Calls Try.prog 36 #[.pointer (some ⟨p, 0, none⟩), .string n] w (Gone w ro p D n m fp) := by
  have H := hid h
  have c1 := blk_cell h.cell
  have B1 := hid h.cell
  have hp : p < w.heap.size := blk_lt h.cell
  have hmm : m < w.heap.size := h.lt m (by rw [h.rm]; decide)
  have hpm : p ≠ m := fun e => by have := h.rp; rw [e, h.rm] at this; cases this
  obtain ⟨y, hy⟩ : ∃ y, aget D.F n = y := ⟨_, rfl⟩
  have HY := hid hy
  have hz : ∀ w : World, (zeroValue 62).run Try.prog w = .ok (.pointer none) w := fun w => by kernel_rfl
  have hmap : (aget (D.F.map fun x => (x.1, Value.pointer (some ⟨fp x.1, 0, none⟩))) n) = y.map fun _ => Value.pointer (some ⟨fp n, 0, none⟩) := by
    rw [aget_keys D.F (fun x => Value.pointer (some ⟨fp x, 0, none⟩)), hy]
  have HMAP := hid hmap
  obtain ⟨u, hu⟩ : ∃ u, usedOf D.F D.B = u := ⟨_, rfl⟩
  have HU := hid hu
  rw [hu] at c1
  have B1 : Hid (w.heap[p]? = some (.cells (dcs D u m bv) 57 (0, 0))) := hid (by rw [← hu]; exact h.cell)
  have hus := h.us
  have hblk := h.bl
  rw [hu] at hus
  unfold dcs at c1
  clear h hy hmap hu
  cases y with
  | none =>
    have hv : (aget (D.F.map fun x => (x.1, Value.pointer (some ⟨fp x.1, 0, none⟩))) n).getD (.pointer none) = .pointer none := by rw [HMAP.out]; rfl
    have HV := hid hv
    clear hv
    go_enter Try.func36, Try.ntmps36
    go_wp2_with (at_lookup; go_loud (refine wpList_lookup_val strKey Try.underlying54 H.out.map n (hz _) HV.out rfl _ _ rfl rfl rfl ?_))
    go_end0
    have hF := aget_none HY.out
    have e1 : D.gone n = D := by
      have hB : adel D.B n = D.B := by
        unfold adel
        rw [List.filter_eq_self]
        intro x hx
        simpa using fun e : x.1 = n => hF (by rw [← e]; exact H.out.names x hx)
      unfold DS.gone
      rw [adel_none hF, hB]
    refine ⟨rfl, ⟨bv, BV, ?_⟩, (Kp.al _ _).all⟩
    rw [e1]
    exact H.out.kept (Kp.al _ _) fun _ _ => trivial
  | some s =>
    have hv : (aget (D.F.map fun x => (x.1, Value.pointer (some ⟨fp x.1, 0, none⟩))) n).getD (.pointer none) = .pointer (some ⟨fp n, 0, none⟩) := by rw [HMAP.out]; rfl
    have HV := hid hv
    have hs := aget_mem HY.out
    have hsz := H.out.size_le hs
    have hle := le_usedOf (B := D.B) hs
    rw [HU.out] at hle
    obtain ⟨sv, q1, q2, q3⟩ := H.out.fl.lie _ hs
    have q4 := H.out.fl.role _ hs
    simp only at q1 q2 q3 q4 hsz hle
    obtain ⟨SA, sc, rfl⟩ := own_shape q2
    obtain ⟨f, hf⟩ : ∃ f, fp n = f := ⟨_, rfl⟩
    obtain ⟨ls, hls⟩ : ∃ z, s.length = z := ⟨_, rfl⟩
    obtain ⟨mo, hmo⟩ : ∃ z, moreOf D.B n = z := ⟨_, rfl⟩
    rw [hf] at q1 q4 hv
    rw [hls, hmo] at hle hsz
    rw [hls] at q1
    rw [hmo] at q1
    have HV := hid hv
    have HF := hid hf; have HLS := hid hls; have HMO := hid hmo; have HS := hid hs
    have b2 := blk_alloc q1 (.cells #[.pointer (some ⟨f, 0, none⟩)] 62)
    have b1 := blk_alloc B1.out (.cells #[.pointer (some ⟨f, 0, none⟩)] 62)
    have b3 := blk_new w (.cells #[.pointer (some ⟨f, 0, none⟩)] 62)
    have B1a := hid b1; have B2 := hid b2; have B3 := hid b3
    have f1 := blk_free b1
    have hfl : f < w.heap.size := H.out.lt f (by rw [q4]; decide)
    have hpf : f ≠ p := fun e => by rw [e, H.out.rp] at q4; cases q4
    have hmf : f ≠ m := fun e => by rw [e, H.out.rm] at q4; cases q4
    have HQ4 := hid q4
    have hmk : ∀ (fn : Fn) (first cap : Array Value) (w : World), (Instr.makeFunc fn first cap).run Try.prog w = .ok (.func fn first cap) w := fun _ _ _ _ => rfl
    have hneed : needs (ls + mo) ≤ u := hle
    clear hv hf hls hmo hs q1 q2 q3 q4 b1 b2 b3
    go_enter Try.func36, Try.ntmps36
    go_wp2_with (at_lookup; go_loud (refine wpList_lookup_val strKey Try.underlying54 H.out.map n (hz _) HV.out rfl _ _ rfl rfl rfl ?_))
    refine RegionLast.wp_region_end_quiet (by kernel_rfl) (by kernel_rfl) (by kernel_rfl) ?_; simp only [List.length_cons, List.length_nil, Nat.zero_add, Nat.reduceAdd, Nat.reduceSub, List.take_succ_cons, List.take_zero, List.drop_succ_cons, List.drop_zero]
    repeat (go_big_quiet_step ((first | (go_at_call 41; refine (size_any f SA ls sc mo (by omega) (by omega) _ (by exact B2.out)).mono ?_; rintro e w1 ⟨rfl, q, rfl⟩; exact ⟨rfl, _, World.drewN_drewN _ _ _⟩) | (go_at_call 40; refine (needs_any _ (by omega) _).mono ?_; rintro e w2 ⟨rfl, rfl⟩; exact ⟨rfl, _, rfl⟩))))
    refine wpQuiet_nil ?_; intro _ hw'; obtain ⟨nq, hw''⟩ := hw'; subst hw''
    go_wp2_with (at_delete; go_loud (refine wpList_mapdel strKey Try.underlying54 (L := D.F.map fun x => (x.1, Value.pointer (some ⟨fp x.1, 0, none⟩))) (by exact H.out.map.kept (S := fun b => b ≠ p) ((((Kp.refl _ _).alloc _).drewN _).setOut (by simp) _) (Ne.symm hpm)) n rfl _ _ rfl rfl rfl ?_); intro w3 hm3 hk3; have bp3 := hk3.heap (blk_set (w := (w.alloc (.cells #[.pointer (some ⟨f, 0, none⟩)] 62)).drewN nq) (b := p) (by exact B1a.out) 1 (.int .i64 ((u : Int) - (needs (ls + mo) : Nat)))) hpm; have bb3 := hk3.heap (blk_far (w := (w.alloc (.cells #[.pointer (some ⟨f, 0, none⟩)] 62)).drewN nq) (b := w.heap.size) (by exact B3.out) (p := ⟨p, 1, none⟩) (by simp; omega) (.int .i64 ((u : Int) - (needs (ls + mo) : Nat)))) (by omega); have bf3 := hk3.heap (blk_far (w := (w.alloc (.cells #[.pointer (some ⟨f, 0, none⟩)] 62)).drewN nq) (b := f) (by exact B2.out) (p := ⟨p, 1, none⟩) hpf (.int .i64 ((u : Int) - (needs (ls + mo) : Nat)))) hmf; have k3 : Kp (fun b => b ≠ p ∧ b ≠ m) w w3 := (((((Kp.refl (fun b => b ≠ p ∧ b ≠ m) w).alloc _).drewN _).setOut (by simp) _)).trans (hk3.mono fun b _ hb => hb.2); rw [show ((dcs D (u : Int) m bv).setIfInBounds 1 (.int .i64 ((u : Int) - (needs (ls + mo) : Nat)))) = dcs D ((u : Int) - (needs (ls + mo) : Nat)) m bv from rfl] at bp3; have cp3 := blk_cell bp3; unfold dcs at cp3; have fp3 := blk_free bp3; have BP3 := hid bp3; have BB3 := hid bb3; have BF3 := hid bf3; have K3 := hid k3; have M3 := hid hm3; clear bp3 bb3 bf3 k3 hm3 hk3)
    have hbuf : ∀ z, ro z ≠ .buf → some z ≠ bv.ownBlock := fun z hz e => hz (H.out.bf.role z e.symm)
    have h3 : ∀ x ∈ BV, ∃ cx, w3.heap[fp x.1]? = some (.cells cx 65 (0, 0)) ∧ some (fp x.1) ≠ bv.ownBlock := by
      intro x hx
      have hm := H.out.names (x.1, x.2.1) (by rw [H.out.bf.eq]; exact List.mem_map.2 ⟨x, hx, rfl⟩)
      obtain ⟨s', hs'⟩ := mem_keys hm
      obtain ⟨v', g1, _, _⟩ := H.out.fl.lie _ hs'
      have g4 := H.out.fl.role _ hs'
      exact ⟨_, K3.out.heap g1 ⟨(fun e => by rw [e, H.out.rp] at g4; cases g4), (fun e => by rw [e, H.out.rm] at g4; cases g4)⟩, hbuf _ (by rw [g4]; decide)⟩
    have hbx : some w.heap.size ≠ bv.ownBlock := hbuf _ (by rw [H.out.rnew _ (Nat.le_refl _)]; decide)
    have hff : some f ≠ bv.ownBlock := hbuf _ (by rw [HQ4.out]; decide)
    have hpb : some p ≠ bv.ownBlock := hbuf _ (by rw [H.out.rp]; decide)
    have hmb : some m ≠ bv.ownBlock := hbuf _ (by rw [H.out.rm]; decide)
    have hdel : Del (isF f) w.heap.size (BV.map (toE2 fp)) (fun b => some b ≠ bv.ownBlock) w3 := by
      intro x hx w4 k4
      obtain ⟨y, hy, rfl⟩ := List.mem_map.1 hx
      obtain ⟨cx, g1, g2⟩ := h3 y hy
      have := gone1_any w.heap.size f (fp y.1) (toE2 fp y).2.1 (toE2 fp y).2.2.1 (toE2 fp y).2.2.2 w4 (k4.heap BB3.out hbx) _ _ (k4.heap BF3.out hff) (k4.heap g1 g2)
      unfold v1 v2 isF
      rw [toE2_fst]
      exact this
    have hrow3 : w3.ownsRow 0 67 2 bv D.B.length (e2 (BV.map (toE2 fp))) := by
      rw [← wcs_e2 H.out.bf BV (fun _ h => h)]
      exact own_kept H.out.bf.row K3.out (fun b hb => ⟨(fun e => hpb (by rw [← e]; exact hb.symm)), (fun e => hmb (by rw [← e]; exact hb.symm))⟩)
    refine (delfunc_any (isF f) w.heap.size bv D.B.length (BV.map (toE2 fp)) (by rw [List.length_map, H.out.bf.eq, List.length_map]) hbl w3 hrow3 hdel).mono ?_
    rintro e w4 ⟨v, rfl, hvo, hrow4, hk4⟩
    obtain ⟨VA, vc, rfl⟩ := own_shape hrow4
    have bp4 := hk4.heap BP3.out hpb
    have cp4 := blk_cell bp4
    have fp4 := blk_free bp4
    have hp4 : p < w4.heap.size := blk_lt bp4
    have k4 : Kp (fun z => z ≠ p ∧ z ≠ m ∧ some z ≠ bv.ownBlock) w w4 := (K3.out.mono (T := fun z => z ≠ p ∧ z ≠ m ∧ some z ≠ bv.ownBlock) fun _ _ h => ⟨h.1, h.2.1⟩).trans (hk4.mono fun _ _ h => h.2.2)
    have m4 : SMap w4 m _ := M3.out.kept hk4 hmb
    obtain ⟨vn, hvn⟩ : ∃ z, ((BV.map (toE2 fp)).filter fun x => !isF f x).length = z := ⟨_, rfl⟩
    rw [hvn] at hvo hrow4 ⊢
    have BP4 := hid bp4; have VO := hid hvo; have ROW := hid hrow4; have K4 := hid k4; have M4 := hid m4; have HVN := hid hvn
    unfold dcs at cp4
    clear hdel hrow3 h3 hbuf hvo hrow4 bp4 hk4 k4 m4 hvn hbx hff hmb cp3 fp3 c1 f1
    go_wp2_with fail
    go_end0
    have b5 := blk_set BP4.out 3 (.slice VA vn vc)
    have k5 : Kp (fun z => z ≠ p) w4 (w4.setCell ⟨p, 3, none⟩ (.slice VA vn vc)) := (Kp.refl _ _).setOut (by simp) _
    have hro := own_kept ROW.out k5 (fun b hb e => hpb (by rw [← e, ← VO.out]; exact hb.symm))
    obtain ⟨g1, g2⟩ := H.out.goned (wF := w4.setCell ⟨p, 3, none⟩ (.slice VA vn vc)) (v := .slice VA vn vc) HS.out (by rw [b5, HU.out, HLS.out, HMO.out]; rfl) (M4.out.kept k5 (Ne.symm hpm)) VO.out (by rw [HF.out, HVN.out]; exact hro) (K4.out.setOut (by simp) _)
    exact ⟨rfl, ⟨_, _, g1⟩, g2⟩
end Go.Proofs.Ytdlbccjimdghkaa
