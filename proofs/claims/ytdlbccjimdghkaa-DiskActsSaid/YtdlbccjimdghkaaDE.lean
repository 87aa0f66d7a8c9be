/- The disk: settle, walked once. No condition on the disk but that it lies as Dk says. -/
import Derived.Test.YtdlbccjimdghkaaM2
namespace Go.Proofs.Ytdlbccjimdghkaa
open Go.RowKit
set_option linter.unusedVariables false
set_option linter.unusedSimpArgs false

set_option maxRecDepth 100000 in
set_option maxHeartbeats 2000000 in
theorem settle_any (p : Nat) (ro : Nat → Role) (D : DS) (n : Nat) (hn : n ≤ 9223372036854775807) (w : World) (h : Dk w p ro D) :
    Calls Try.prog 38 #[.pointer (some ⟨p, 0, none⟩), .int .i64 n] w fun e w' => e = .returned (.tuple #[]) ∧ Nx w ro p (D.settle n) w' := by
  obtain ⟨m, fp, bv, BV, h⟩ := h
  have H := hid h
  have c1 := blk_cell h.cell
  obtain ⟨l, hl⟩ : ∃ l, D.B.length = l := ⟨_, rfl⟩
  obtain ⟨A, c, hbv⟩ := own_shape h.bf.row
  have hnm := own_le h.bf.row
  rw [hl] at hbv hnm
  have HL := hid hl
  unfold dcs at c1
  subst hbv
  clear h hl
  go_enter Try.func38, Try.ntmps38
  go_wp2_with fail
  go_loopw [1, 12] (fun x i wr => ∃ (k n' : Nat) (F : List (Nm × By)) (ro' : Nat → Role), k ≤ l ∧ n' ≤ n ∧ i = .int .i64 k ∧ x = .int .i64 n' ∧ Hid (settleF F (D.B.drop k) n' = settleF D.F D.B n) ∧ Hid (St w wr p m ro ro' fp D (.slice A l c) BV k F)) (fun _ i _ => l - (intOf i).toNat)
  case atStart =>
    refine ⟨0, n, D.F, ro, Nat.zero_le _, Nat.le_refl _, rfl, rfl, rfl, ?_⟩
    have h := H.out
    exact ⟨h.cell, h.map, h.fl, h.bf, h.rp, h.rm, h.lt, rfl, Nat.le_refl _, fun _ _ h => h, Kp.refl _ _⟩
  case round =>
    obtain ⟨k, n', F, ro', hk, hnn, rfl, rfl, hset, hst⟩ := hrel
    by_cases hlt : k < l
    · have hb0 : decide ((k : Int) < (l : Int)) = true := decide_eq_true (by omega)
      obtain ⟨x, hx⟩ : ∃ x, D.B[k]? = some x := ⟨_, List.getElem?_eq_getElem (by rw [HL.out]; exact hlt)⟩
      have hdrop : D.B.drop k = x :: D.B.drop (k + 1) := by
        rw [List.drop_eq_getElem_cons (by rw [HL.out]; exact hlt)]
        congr 1
        have := List.getElem?_eq_getElem (l := D.B) (i := k) (by rw [HL.out]; exact hlt)
        rw [this] at hx
        injection hx
      obtain ⟨g, cap, A', c', e1, _, p1, p2, p3, p4, p5⟩ := hst.out.bf.at hx
      rw [HL.out] at e1
      injection e1 with eA _ ec
      subst eA ec
      obtain ⟨s, hs⟩ := mem_keys (n := x.1) (F := F) (by rw [hst.out.keys]; exact H.out.names x (List.mem_of_getElem? hx))
      obtain ⟨sv, q1, q2, q3⟩ := hst.out.fl.lie _ hs
      have q4 := hst.out.fl.role _ hs
      obtain ⟨SA, sc, rfl⟩ := own_shape q2
      have hnd : (F.map (·.1)).Nodup := by
        rw [hst.out.keys]
        have := H.out.map.nodup strKey
        simpa [List.map_map, Function.comp_def] using this
      have hu := used_step (rest := D.B.drop (k + 1)) (c := x.2.take n') hnd hs
      have hule := le_usedOf (B := D.B.drop k) hs
      have hus := hst.out.us
      have hbl := H.out.bl
      have hul := H.out.us
      have hm : moreOf (D.B.drop k) x.1 = x.2.length + moreOf (D.B.drop (k + 1)) x.1 := by rw [hdrop]; simp [moreOf]
      rw [← hdrop] at hu
      simp only at hu hule q1 q2 q3 q4 p3
      obtain ⟨f, hf⟩ : ∃ f, fp x.1 = f := ⟨_, rfl⟩
      obtain ⟨lb, hlb⟩ : ∃ z, x.2.length = z := ⟨_, rfl⟩
      obtain ⟨ls, hls⟩ : ∃ z, s.length = z := ⟨_, rfl⟩
      obtain ⟨mo, hmo⟩ : ∃ z, moreOf (D.B.drop (k + 1)) x.1 = z := ⟨_, rfl⟩
      obtain ⟨u, hu1⟩ : ∃ z, usedOf F (D.B.drop k) = z := ⟨_, rfl⟩
      have cP := hst.out.cell
      obtain ⟨kk, hkk⟩ : ∃ z, min lb n' = z := ⟨_, rfl⟩
      have hmn := fun w => run_min2 (P := Try.prog) w 3 3 .i64 (lb : Int) (n' : Int)
      rw [show min (lb : Int) (n' : Int) = ((min lb n' : Nat) : Int) from by omega, hkk] at hmn
      have hk1 : kk ≤ lb := by omega
      have hk2 : kk ≤ n' := by omega
      rw [List.length_take, Nat.min_comm, hmo] at hu
      rw [hm, hmo] at hu hule q1
      rw [hf] at q1 q3 q4 p1
      rw [hlb] at hu hule q1 p2 p3 p4
      rw [hkk] at hu
      rw [hls] at hu hule q1 q2
      rw [hu1] at hu hule hus cP
      have i0 : (0 : Int) ≤ (k : Int) := by omega
      have i1 : (k : Int) < (l : Int) := by omega
      have b1 := blk_alloc cP (.cells #[.pointer (some ⟨f, 0, none⟩), .slice A' lb c'] 67)
      have b2 := blk_alloc q1 (.cells #[.pointer (some ⟨f, 0, none⟩), .slice A' lb c'] 67)
      have b3 := blk_new wr (.cells #[.pointer (some ⟨f, 0, none⟩), .slice A' lb c'] 67)
      have B1 := hid b1; have B2 := hid b2; have B3 := hid b3; have HU := hid hu
      have c1 := blk_cell b1; have c2 := blk_cell b2; have c3 := blk_cell b3
      have f1 := blk_free b1; have f2 := blk_free b2; have f3 := blk_free b3
      unfold dcs at c1
      clear b1 b2 b3 cP hu
      have hz : ls + (lb + mo) ≤ 1073741824 := by unfold needs at hule; omega
      go_wp2_with fail
      refine RegionLast.wp_region_end_quiet (by kernel_rfl) (by kernel_rfl) (by kernel_rfl) ?_; simp only [List.length_cons, List.length_nil, Nat.zero_add, Nat.reduceAdd, Nat.reduceSub, List.take_succ_cons, List.take_zero, List.drop_succ_cons, List.drop_zero]
      repeat (go_big_quiet_step ((first | (go_at_call 41; refine (size_any f SA ls sc (lb + mo) (by omega) (by omega) _ (by exact B2.out)).mono ?_; rintro e w1 ⟨rfl, q, rfl⟩; exact ⟨rfl, _, World.drewN_drewN _ _ _⟩) | (go_at_call 40; refine (needs_any _ (by omega) _).mono ?_; rintro e w2 ⟨rfl, rfl⟩; exact ⟨rfl, _, rfl⟩))))
      refine wpQuiet_nil ?_; intro _ hw'; obtain ⟨nq, hw''⟩ := hw'; subst hw''
      go_wp2_with fail
      have hpf : f ≠ p := fun e => by rw [e, hst.out.rp] at q4; cases q4
      have hps : p < wr.heap.size := blk_lt hst.out.cell
      have hfs : f < wr.heap.size := hst.out.lt f (by rw [q4]; decide)
      have b1 := blk_set (w := (wr.alloc (.cells #[.pointer (some ⟨f, 0, none⟩), .slice A' lb c'] 67)).drewN nq) (b := p) (by exact B1.out) 1 (.int .i64 ((u : Int) - (needs (ls + (lb + mo)) : Nat)))
      have b2 := blk_far (w := (wr.alloc (.cells #[.pointer (some ⟨f, 0, none⟩), .slice A' lb c'] 67)).drewN nq) (b := f) (by exact B2.out) (p := ⟨p, 1, none⟩) hpf (.int .i64 ((u : Int) - (needs (ls + (lb + mo)) : Nat)))
      have b3 := blk_far (w := (wr.alloc (.cells #[.pointer (some ⟨f, 0, none⟩), .slice A' lb c'] 67)).drewN nq) (b := wr.heap.size) (by exact B3.out) (p := ⟨p, 1, none⟩) (by simp; omega) (.int .i64 ((u : Int) - (needs (ls + (lb + mo)) : Nat)))
      have k2 : Kp (fun b => b ≠ p) wr ((((wr.alloc (.cells #[.pointer (some ⟨f, 0, none⟩), .slice A' lb c'] 67)).drewN nq).setCell ⟨p, 1, none⟩ (.int .i64 ((u : Int) - (needs (ls + (lb + mo)) : Nat))))) := (((Kp.refl _ _).alloc _).drewN _).setOut (by simp) _
      rw [show ((dcs D (u : Int) m (.slice (some ⟨g, 0, none⟩) l c)).setIfInBounds 1 (.int .i64 ((u : Int) - (needs (ls + (lb + mo)) : Nat)))) = dcs D ((u : Int) - (needs (ls + (lb + mo)) : Nat)) m (.slice (some ⟨g, 0, none⟩) l c) from rfl] at b1
      obtain ⟨w2, hw2⟩ : ∃ w2, w2 = ((((wr.alloc (.cells #[.pointer (some ⟨f, 0, none⟩), .slice A' lb c'] 67)).drewN nq).setCell ⟨p, 1, none⟩ (.int .i64 ((u : Int) - (needs (ls + (lb + mo)) : Nat))))) := ⟨_, rfl⟩
      rw [← hw2] at b1 b2 b3 k2 ⊢
      clear c1 c2 c3 f1 f2 f3 hw2
      have q2' := own_kept q2 k2 (fun b hb e => by have := q3 b (by rw [hls]; exact hb); rw [e, hst.out.rp] at this; cases this)
      have p3' := own_kept p3 k2 (fun b hb e => by have := p4 b hb; rw [e, hst.out.rp] at this; cases this)
      have B1 := hid b1; have B2 := hid b2; have B3 := hid b3; have K2 := hid k2; have Q2 := hid q2'; have P3 := hid p3'
      have c1 := blk_cell b1; have c2 := blk_cell b2; have cc3 := blk_cell b3
      have f1 := blk_free b1; have f2 := blk_free b2; have f3 := blk_free b3
      unfold dcs at c1
      clear b1 b2 b3 k2 q2' p3'
      have hc0 : (0 : Int) ≤ (kk : Int) := by omega
      have hc1 : (kk : Int) ≤ (c' : Int) := by have := (own_sl p3 hk1).2; omega
      have nb : ∀ z, (z = p ∨ z = f ∨ z = wr.heap.size) → some z ≠ (Value.slice SA ls sc).ownBlock := by
        rintro z hz e
        have h1 := q3 z (by rw [hls]; exact e.symm)
        have h2 := hst.out.lt z (by rw [h1]; simp)
        rcases hz with rfl | rfl | rfl
        · rw [hst.out.rp] at h1; cases h1
        · rw [q4] at h1; cases h1
        · omega
      have hls2 : ls + kk ≤ 1073741824 := by omega
      refine RegionLast.wp_region_end_held (S := fun w' => (∀ i, w'.cell? ⟨f, i, none⟩ = (#[.slice SA ls sc, .int .i64 ((lb + mo : Nat) : Int)] : Array Value)[i]?) ∧ (∀ i, w'.cell? ⟨wr.heap.size, i, none⟩ = (#[.pointer (some ⟨f, 0, none⟩), .slice A' lb c'] : Array Value)[i]?)) (by kernel_rfl) (by kernel_rfl) ⟨c2, cc3⟩ (fun hHeld => ?_)
      simp only [List.length_cons, List.length_nil, Nat.zero_add, Nat.reduceAdd, Nat.reduceSub, List.take_succ_cons, List.take_zero, List.drop_succ_cons, List.drop_zero]
      (refine wpAnyH_take (i := 0) (oi := _) (v := ?_) (by (simp only [List.getElem?_toArray, List.getElem?_cons_succ, List.getElem?_cons_zero]); rfl) (by kernel_rfl) (by kernel_rfl) (by kernel_rfl) (by exact fun _ _ _ h => h) (Or.inl ⟨by rfl, ?_⟩) (by assumption) ?_; rotate_left; focus ((intro w hSw; (try dsimp only at hSw); go_simp) <;> with_reducible rfl); (try simp only [Act.put, List.getElem_toArray, List.getElem_cons_succ, List.getElem_cons_zero, List.setIfInBounds_toArray, List.set_cons_zero, List.set_cons_succ]))
      (refine wpAnyH_take (i := 1) (oi := _) (v := ?_) (by (simp only [List.getElem?_toArray, List.getElem?_cons_succ, List.getElem?_cons_zero]); rfl) (by kernel_rfl) (by kernel_rfl) (by kernel_rfl) (by exact fun _ _ _ h => h) (Or.inl ⟨by rfl, ?_⟩) (by assumption) ?_; rotate_left; focus ((intro w hSw; (try dsimp only at hSw); go_simp) <;> with_reducible rfl); (try simp only [Act.put, List.getElem_toArray, List.getElem_cons_succ, List.getElem_cons_zero, List.setIfInBounds_toArray, List.set_cons_zero, List.set_cons_succ]))
      (refine wpAnyH_take (i := 2) (oi := _) (v := ?_) (by (simp only [List.getElem?_toArray, List.getElem?_cons_succ, List.getElem?_cons_zero]); rfl) (by kernel_rfl) (by kernel_rfl) (by kernel_rfl) (by exact fun _ _ _ h => h) (Or.inl ⟨by rfl, ?_⟩) (by assumption) ?_; rotate_left; focus ((intro w hSw; (try dsimp only at hSw); go_simp) <;> with_reducible rfl); (try simp only [Act.put, List.getElem_toArray, List.getElem_cons_succ, List.getElem_cons_zero, List.setIfInBounds_toArray, List.set_cons_zero, List.set_cons_succ]))
      (refine wpAnyH_take (i := 3) (oi := _) (v := ?_) (by (simp only [List.getElem?_toArray, List.getElem?_cons_succ, List.getElem?_cons_zero]); rfl) (by kernel_rfl) (by kernel_rfl) (by kernel_rfl) (by exact fun _ _ _ h => h) (Or.inl ⟨by rfl, ?_⟩) (by assumption) ?_; rotate_left; focus ((intro w hSw; (try dsimp only at hSw); go_simp) <;> with_reducible rfl); (try simp only [Act.put, List.getElem_toArray, List.getElem_cons_succ, List.getElem_cons_zero, List.setIfInBounds_toArray, List.set_cons_zero, List.set_cons_succ]))
      (refine wpAnyH_take (i := 4) (oi := _) (v := ?_) (by (simp only [List.getElem?_toArray, List.getElem?_cons_succ, List.getElem?_cons_zero]); rfl) (by kernel_rfl) (by kernel_rfl) (by kernel_rfl) (by exact fun _ _ _ h => h) (Or.inl ⟨by rfl, ?_⟩) (by assumption) ?_; rotate_left; focus ((intro w hSw; (try dsimp only at hSw); go_simp) <;> with_reducible rfl); (try simp only [Act.put, List.getElem_toArray, List.getElem_cons_succ, List.getElem_cons_zero, List.setIfInBounds_toArray, List.set_cons_zero, List.set_cons_succ]))
      (refine wpAnyH_take (i := 5) (oi := _) (v := ?_) (by (simp only [List.getElem?_toArray, List.getElem?_cons_succ, List.getElem?_cons_zero]); rfl) (by kernel_rfl) (by kernel_rfl) (by kernel_rfl) (by exact fun _ _ _ h => h) (Or.inl ⟨by rfl, ?_⟩) (by assumption) ?_; rotate_left; focus ((intro w hSw; (try dsimp only at hSw); go_simp) <;> with_reducible rfl); (try simp only [Act.put, List.getElem_toArray, List.getElem_cons_succ, List.getElem_cons_zero, List.setIfInBounds_toArray, List.set_cons_zero, List.set_cons_succ]))
      (refine wpAnyH_take (i := 6) (oi := _) (v := ?_) (by (simp only [List.getElem?_toArray, List.getElem?_cons_succ, List.getElem?_cons_zero]); rfl) (by kernel_rfl) (by kernel_rfl) (by kernel_rfl) (by exact fun _ _ _ h => h) (Or.inl ⟨by rfl, ?_⟩) (by assumption) ?_; rotate_left; focus ((intro w hSw; (try dsimp only at hSw); go_simp) <;> with_reducible rfl); (try simp only [Act.put, List.getElem_toArray, List.getElem_cons_succ, List.getElem_cons_zero, List.setIfInBounds_toArray, List.set_cons_zero, List.set_cons_succ]))
      (refine wpAnyH_take (i := 7) (oi := _) (v := ?_) (by (simp only [List.getElem?_toArray, List.getElem?_cons_succ, List.getElem?_cons_zero]); rfl) (by kernel_rfl) (by kernel_rfl) (by kernel_rfl) (by exact fun _ _ _ h => h) (Or.inl ⟨by rfl, ?_⟩) (by assumption) ?_; rotate_left; focus ((intro w hSw; (try dsimp only at hSw); go_simp) <;> with_reducible rfl); (try simp only [Act.put, List.getElem_toArray, List.getElem_cons_succ, List.getElem_cons_zero, List.setIfInBounds_toArray, List.set_cons_zero, List.set_cons_succ]))
      (refine wpAnyH_take (i := 8) (oi := _) (v := ?_) (by (simp only [List.getElem?_toArray, List.getElem?_cons_succ, List.getElem?_cons_zero]); rfl) (by kernel_rfl) (by kernel_rfl) (by kernel_rfl) (by exact fun _ _ _ h => h) (Or.inl ⟨by rfl, ?_⟩) (by assumption) ?_; rotate_left; focus ((intro w hSw; (try dsimp only at hSw); go_simp) <;> with_reducible rfl); (try simp only [Act.put, List.getElem_toArray, List.getElem_cons_succ, List.getElem_cons_zero, List.setIfInBounds_toArray, List.set_cons_zero, List.set_cons_succ]))
      (refine wpAnyH_take (i := 9) (oi := _) (v := ?_) (by (simp only [List.getElem?_toArray, List.getElem?_cons_succ, List.getElem?_cons_zero]); rfl) (by kernel_rfl) (by kernel_rfl) (by kernel_rfl) (by exact fun _ _ _ h => h) (Or.inl ⟨by rfl, ?_⟩) (by assumption) ?_; rotate_left; focus ((intro w hSw; (try dsimp only at hSw); go_simp) <;> with_reducible rfl); (try simp only [Act.put, List.getElem_toArray, List.getElem_cons_succ, List.getElem_cons_zero, List.setIfInBounds_toArray, List.set_cons_zero, List.set_cons_succ]))
      (refine wpAnyH_take (i := 10) (oi := _) (v := ?_) (by (simp only [List.getElem?_toArray, List.getElem?_cons_succ, List.getElem?_cons_zero]); rfl) (by kernel_rfl) (by kernel_rfl) (by kernel_rfl) (by exact fun _ _ _ h => h) (Or.inl ⟨by rfl, ?_⟩) (by assumption) ?_; rotate_left; focus ((intro w hSw; (try dsimp only at hSw); go_simp) <;> with_reducible rfl); (try simp only [Act.put, List.getElem_toArray, List.getElem_cons_succ, List.getElem_cons_zero, List.setIfInBounds_toArray, List.set_cons_zero, List.set_cons_succ]))
      simp only [Act.put, List.setIfInBounds_toArray, List.set_cons_zero, List.set_cons_succ]
      refine wpAnyH_ready (rs := [11]) (by kernel_rfl) (by simp) ?_
      refine AllReadyH.cons rfl ?_ AllReadyH.nil
      intro KQ hKQ
      refine step_plain rfl (wp_app el8 (World.ownsRow.drew Q2.out) (A := A') (m := kk) (c := c') (news := (u8s x.2).take kk) ?_ ?_ ?_ ?_ _ _ rfl rfl rfl ?_)
      (exact (own_sl (World.ownsRow.drew P3.out) hk1).1)
      (exact fun z hz => u8s_one x.2 z (List.mem_of_mem_take hz))
      omega
      (exact Nat.zero_le _)
      intro v' w3 hown3 hg3 hob3 hnil3
      obtain ⟨A3, e3, rfl⟩ := own_shape hown3
      have bA := (Kp.grown hg3).heap (b := p) (by exact B1.out) (nb p (.inl rfl))
      have bB := (Kp.grown hg3).heap (b := f) (by exact B2.out) (nb f (.inr (.inl rfl)))
      have bC := (Kp.grown hg3).heap (b := wr.heap.size) (by exact B3.out) (nb _ (.inr (.inr rfl)))
      have cA := blk_cell bA
      have cB := blk_cell bB
      have cC := blk_cell bC
      have fA := blk_free bA
      have fB := blk_free bB
      have fC := blk_free bC
      unfold dcs at cA
      have HG := hid hg3
      have HO := hid hob3
      have HW := hid hown3
      have BA := hid bA
      have BB := hid bB
      have BC := hid bC
      clear hown3 hg3 hob3 hnil3 bA bB bC
      refine hKQ.out _ _ ⟨cB, cC⟩ (fun hHeld2 => ?_)
      clear hKQ KQ
      (try simp only [Act.put, List.setIfInBounds_toArray, List.set_cons_zero, List.set_cons_succ])
      (refine wpAnyH_take (i := 12) (oi := _) (v := ?_) (by (simp only [List.getElem?_toArray, List.getElem?_cons_succ, List.getElem?_cons_zero]); rfl) (by kernel_rfl) (by kernel_rfl) (by kernel_rfl) (by exact fun _ _ _ h => h) (Or.inl ⟨by rfl, ?_⟩) (by assumption) ?_; rotate_left; focus ((intro w hSw; (try dsimp only at hSw); go_simp) <;> with_reducible rfl); (try simp only [Act.put, List.getElem_toArray, List.getElem_cons_succ, List.getElem_cons_zero, List.setIfInBounds_toArray, List.set_cons_zero, List.set_cons_succ]))
      (refine wpAnyH_take (i := 13) (oi := _) (v := ?_) (by (simp only [List.getElem?_toArray, List.getElem?_cons_succ, List.getElem?_cons_zero]); rfl) (by kernel_rfl) (by kernel_rfl) (by kernel_rfl) (by exact fun _ _ _ h => h) (Or.inl ⟨by rfl, ?_⟩) (by assumption) ?_; rotate_left; focus ((intro w hSw; (try dsimp only at hSw); go_simp) <;> with_reducible rfl); (try simp only [Act.put, List.getElem_toArray, List.getElem_cons_succ, List.getElem_cons_zero, List.setIfInBounds_toArray, List.set_cons_zero, List.set_cons_succ]))
      simp only [Act.put, List.setIfInBounds_toArray, List.set_cons_zero, List.set_cons_succ]
      refine wpAnyH_done (by kernel_rfl) ?_ _
      unfold RegionLast.LastQ
      dsimp only
      go_wp2_with fail
      have b1 := blk_far BA.out (p := ⟨f, 0, none⟩) (Ne.symm hpf) (.slice A3 (ls + kk) e3)
      have b2 := blk_set BB.out 0 (.slice A3 (ls + kk) e3)
      have b3 := blk_far BC.out (p := ⟨f, 0, none⟩) (by simp; omega) (.slice A3 (ls + kk) e3)
      have kg : Kp (fun b => b ≠ p ∧ b ≠ f ∧ some b ≠ (Value.slice SA ls sc).ownBlock) wr (w3.setCell ⟨f, 0, none⟩ (.slice A3 (ls + kk) e3)) :=
        ((K2.out.mono (T := fun b => b ≠ p ∧ b ≠ f ∧ some b ≠ (Value.slice SA ls sc).ownBlock) fun b _ hb => hb.1).drew.trans ((Kp.grown HG.out).mono fun b _ hb => hb.2.2)).setOut (by simp) _
      have hw3 : wr.heap.size ≤ w2.heap.size := K2.out.size
      have ho4 := own_kept HW.out (w' := w3.setCell ⟨f, 0, none⟩ (.slice A3 (ls + kk) e3)) ((Kp.refl (fun b => b ≠ f) _).setOut (by simp) _) (fun b hb e => by
        rcases HO.out with h | h
        · rw [h] at hb; exact nb b (.inr (.inl e)) hb.symm
        · rw [h] at hb; injection hb with hb; rw [← e, ← hb] at hfs; exact absurd hfs (by simp; omega))
      obtain ⟨w4, hw4⟩ : ∃ w4, w4 = w3.setCell ⟨f, 0, none⟩ (.slice A3 (ls + kk) e3) := ⟨_, rfl⟩
      rw [← hw4] at b1 b2 b3 kg ho4 ⊢
      rw [show ((#[.slice SA ls sc, .int .i64 ((lb + mo : Nat) : Int)] : Array Value).setIfInBounds 0 (.slice A3 (ls + kk) e3)) = #[.slice A3 (ls + kk) e3, .int .i64 ((lb + mo : Nat) : Int)] from rfl] at b2
      clear c1 c2 cc3 f1 f2 f3 cA cB cC fA fB fC hw4 BA BB BC
      have B1 := hid b1; have B2 := hid b2; have B3 := hid b3; have KG := hid kg; have O4 := hid ho4
      have c1 := blk_cell b1; have c2 := blk_cell b2; have c3 := blk_cell b3
      have f1 := blk_free b1; have f2 := blk_free b2; have f3 := blk_free b3
      unfold dcs at c1
      clear b1 b2 b3 kg ho4
      go_wp2_with fail
      refine RegionLast.wp_region_end_quiet (by kernel_rfl) (by kernel_rfl) (by kernel_rfl) ?_; simp only [List.length_cons, List.length_nil, Nat.zero_add, Nat.reduceAdd, Nat.reduceSub, List.take_succ_cons, List.take_zero, List.drop_succ_cons, List.drop_zero]
      repeat (go_big_quiet_step (fail))
      refine wpQuiet_nil ?_; intro _ hw'; obtain ⟨nq, hw''⟩ := hw'; subst hw''
      go_wp2_with fail
      have b1 := blk_far (w := w4.drewN nq) (by exact B1.out) (p := ⟨f, 1, none⟩) (Ne.symm hpf) (.int .i64 ((lb : Int) + (mo : Int) - (lb : Int)))
      have b2 := blk_set (w := w4.drewN nq) (by exact B2.out) 1 (.int .i64 ((lb : Int) + (mo : Int) - (lb : Int)))
      have b3 := blk_far (w := w4.drewN nq) (by exact B3.out) (p := ⟨f, 1, none⟩) (by simp; omega) (.int .i64 ((lb : Int) + (mo : Int) - (lb : Int)))
      have kg : Kp (fun b => b ≠ p ∧ b ≠ f ∧ some b ≠ (Value.slice SA ls sc).ownBlock) wr ((w4.drewN nq).setCell ⟨f, 1, none⟩ (.int .i64 ((lb : Int) + (mo : Int) - (lb : Int)))) := (KG.out.drewN _).setOut (by simp) _
      have ho5 := own_kept O4.out (w' := (w4.drewN nq).setCell ⟨f, 1, none⟩ (.int .i64 ((lb : Int) + (mo : Int) - (lb : Int)))) (((Kp.refl (fun b => b ≠ f) _).drewN _).setOut (by simp) _) (fun b hb e => by
        rcases HO.out with h | h
        · rw [h] at hb; exact nb b (.inr (.inl e)) hb.symm
        · rw [h] at hb; injection hb with hb; rw [← e, ← hb] at hfs; exact absurd hfs (by simp; omega))
      obtain ⟨w5, hw5⟩ : ∃ w5, w5 = ((w4.drewN nq).setCell ⟨f, 1, none⟩ (.int .i64 ((lb : Int) + (mo : Int) - (lb : Int)))) := ⟨_, rfl⟩
      rw [← hw5] at b1 b2 b3 kg ho5 ⊢
      rw [show ((#[.slice A3 (ls + kk) e3, .int .i64 ((lb + mo : Nat) : Int)] : Array Value).setIfInBounds 1 (.int .i64 ((lb : Int) + (mo : Int) - (lb : Int)))) = #[.slice A3 (ls + kk) e3, .int .i64 (mo : Int)] from by rw [show (lb : Int) + (mo : Int) - (lb : Int) = (mo : Int) from by omega]; rfl] at b2
      clear c1 c2 c3 f1 f2 f3 hw5
      have B1 := hid b1; have B2 := hid b2; have B3 := hid b3; have KG := hid kg; have O5 := hid ho5
      have c1 := blk_cell b1; have c2 := blk_cell b2; have c3 := blk_cell b3
      have f1 := blk_free b1; have f2 := blk_free b2; have f3 := blk_free b3
      unfold dcs at c1
      clear b1 b2 b3 kg ho5
      have hnle : needs (ls + kk + mo) ≤ needs (ls + (lb + mo)) := by unfold needs; omega
      have hsz2 : ls + kk ≤ 1099511627776 := by omega
      have hsz3 : mo ≤ 1099511627776 := by omega
      go_wp2_with fail
      refine RegionLast.wp_region_end_quiet (by kernel_rfl) (by kernel_rfl) (by kernel_rfl) ?_; simp only [List.length_cons, List.length_nil, Nat.zero_add, Nat.reduceAdd, Nat.reduceSub, List.take_succ_cons, List.take_zero, List.drop_succ_cons, List.drop_zero]
      repeat (go_big_quiet_step ((first | (go_at_call 41; refine (size_any f A3 (ls + kk) e3 mo hsz2 hsz3 _ (by exact B2.out)).mono ?_; rintro e w1 ⟨rfl, q, rfl⟩; exact ⟨rfl, _, World.drewN_drewN _ _ _⟩) | (go_at_call 40; refine (needs_any _ (by omega) _).mono ?_; rintro e w2 ⟨rfl, rfl⟩; exact ⟨rfl, _, rfl⟩))))
      refine wpQuiet_nil ?_; intro _ hw'; obtain ⟨nq, hw''⟩ := hw'; subst hw''
      go_wp2_with fail
      have e1 : x.2.take n' = x.2.take kk := by rw [← hkk, ← hlb, Nat.min_comm, ← List.take_take, List.take_of_length_le (Nat.le_refl x.2.length)]
      have e2 : (s ++ x.2.take n').length = ls + kk := by rw [List.length_append, List.length_take, hls, hlb, Nat.min_comm, hkk]
      have e4 : u8s (s ++ x.2.take n') = u8s s ++ (u8s x.2).take kk := by rw [e1, u8s_append, u8s_take]
      have hu2 := HU.out
      have b1 := blk_set (w := w5.drewN nq) (b := p) (by exact B1.out) 1 (.int .i64 ((u : Int) - (needs (ls + (lb + mo)) : Nat) + (needs (ls + kk + mo) : Nat)))
      have b2 := blk_far (w := w5.drewN nq) (b := f) (by exact B2.out) (p := ⟨p, 1, none⟩) hpf (.int .i64 ((u : Int) - (needs (ls + (lb + mo)) : Nat) + (needs (ls + kk + mo) : Nat)))
      have hoF := own_kept O5.out (w' := (w5.drewN nq).setCell ⟨p, 1, none⟩ (.int .i64 ((u : Int) - (needs (ls + (lb + mo)) : Nat) + (needs (ls + kk + mo) : Nat)))) (((Kp.refl (fun b => b ≠ p) _).drewN _).setOut (by simp) _) (fun b hb e => by
        rcases HO.out with h | h
        · rw [h] at hb; exact nb b (.inl e) hb.symm
        · rw [h] at hb; injection hb with hb; rw [← e, ← hb] at hps; exact absurd hps (by simp; omega))
      obtain ⟨ro2, hfin⟩ := hst.out.next (c := x.2.take n') (sv := .slice SA ls sc) (v3 := .slice A3 (ls + kk) e3) (N := w2.heap.size) (wF := (w5.drewN nq).setCell ⟨p, 1, none⟩ (.int .i64 ((u : Int) - (needs (ls + (lb + mo)) : Nat) + (needs (ls + kk + mo) : Nat)))) hx hdrop hs hnd
        (fun b hb => by rw [hf]; exact q3 b (by rw [hls]; exact hb))
        (by rw [b1]; congr 2; rw [show ((u : Int) - (needs (ls + (lb + mo)) : Nat) + (needs (ls + kk + mo) : Nat)) = ((usedOf (addTo F x.1 (x.2.take n')) (D.B.drop (k + 1)) : Nat) : Int) from by omega]; rfl)
        (by rw [hf, hmo]; exact b2)
        (by rw [e2, e4]; exact hoF)
        HO.out hw3
        (by rw [hf]; exact (KG.out.drewN _).setOut (by simp) _)
        (by rw [hu1]; omega)
      refine ⟨⟨k + 1, n' - kk, _, ro2, by omega, by omega, by go_num, ?_, ?_, hfin⟩, by simp [intOf]; omega⟩
      · rw [show ((n' - kk : Nat) : Int) = (n' : Int) - (kk : Int) from by omega]
      · have := hset.out
        rw [hdrop, settleF, hlb, hkk] at this
        exact hid this
    · have hb0 : decide ((k : Int) < (l : Int)) = false := decide_eq_false (by omega)
      have c1 := blk_cell hst.out.cell
      have f1 := blk_free hst.out.cell
      have B1 := hid hst.out.cell
      unfold dcs at c1
      have : k = l := by omega
      subst this
      go_wp2_with fail
      go_end0
      have hdl : D.B.drop k = [] := List.drop_eq_nil_of_le (by rw [HL.out]; exact Nat.le_refl _)
      have hS := hst.out
      have hF : F = settleF D.F D.B n := by have := hset.out; rw [hdl, settleF] at this; exact this
      have b1 := blk_set B1.out 3 (.slice none 0 0)
      have k1 : Kp (fun b => b ≠ p) wr (wr.setCell ⟨p, 3, none⟩ (.slice none 0 0)) := (Kp.refl _ _).setOut (by simp) _
      have h1 := hS.cell; have h2 := hS.map; have h3 := hS.fl; have h5 := hS.us
      rw [hdl] at h3 h5 b1
      rw [hF] at h3 h5 b1
      have hk := hS.keys
      rw [hF] at hk
      refine ⟨rfl, ro', ⟨m, fp, .slice none 0 0, [], ?_, ?_, ?_, ⟨rfl, World.ownsRow_nil _ _ _ _, by simp [Value.ownBlock], by simp, by simp [blks]⟩, hS.rp, hS.rm, ?_, by simp [DS.settle], H.out.bl, H.out.kw, ?_⟩, hS.ext, ?_⟩
      · exact b1
      · show SMap _ m ((settleF D.F D.B n).map fun x => (x.1, _))
        rw [map_keys hk (fun x => Value.pointer (some ⟨fp x, 0, none⟩))]
        exact h2.kept k1 (fun e => by have := hS.rm; rw [e, hS.rp] at this; cases this)
      · exact h3.kept k1 (fun b hb e => by rw [e, hS.rp] at hb; rcases hb with e | ⟨f, e⟩ <;> cases e)
      · intro b hb
        simpa using hS.lt b hb
      · have := H.out.us
        show ((usedOf (settleF D.F D.B n) [] : Nat) : Int) ≤ D.blocks
        omega
      · exact hS.kp.then k1 (fun b hb hn e => by have := hS.ext b hb hn; rw [e, hS.rp] at this; cases this)
end Go.Proofs.Ytdlbccjimdghkaa
