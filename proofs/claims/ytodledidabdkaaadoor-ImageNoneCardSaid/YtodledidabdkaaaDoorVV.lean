/- The map's made (an empty one) and New walked. No condition but that the numbers are of their kinds. -/
import Derived.Test.YtodledidabdkaaaDoorVU
namespace Go.Proofs.YtodledidabdkaaaDoor
open Go.RowKit Go.Shelf V
set_option linter.unusedVariables false
set_option linter.unusedSimpArgs false
/-- An empty map of g groups is answered, all else kept. -/
def MadeR (k0 k1 g : Nat) (w : World) (e : Ending) (w' : World) : Prop := ∃ bm bw cw bs cs, e = .returned (.pointer (some ⟨bm, 0, none⟩)) ∧ w.heap.size ≤ bm ∧ w.heap.size ≤ bw ∧ w.heap.size ≤ bs ∧ Ms k0 k1 bm bw cw bs cs (madeP g) w' ∧ Kp All w w'
theorem wcs_made (g : Nat) : wcs (madeP g).ctrl = List.replicate g noneV := by
  apply List.ext_getElem?
  intro q
  by_cases hq : q < g
  · have hl : (madeP g).ctrl.length / 8 = g := by simp [madeP]
    rw [wcs_get (by rw [hl]; exact hq), List.getElem?_replicate, if_pos hq]
    have e : grp (madeP g).ctrl q = List.replicate 8 128 := by
      unfold grp madeP
      simp only [List.drop_replicate, List.take_replicate]
      congr 1
      omega
    rw [e, wd_rep]
    rfl
  · rw [List.getElem?_eq_none (by rw [wcs_len]; simp [madeP]; omega), List.getElem?_eq_none (by simpa using hq)]
theorem made_cnt (g : Nat) : (madeP g).cnt = 0 ∧ (madeP g).tmb = 0 ∧ (madeP g).g = g := by
  refine ⟨?_, ?_, by simp [Mp.g, madeP]⟩
  · unfold Mp.cnt madeP
    rw [List.countP_eq_zero]
    intro b hb
    rw [List.eq_of_mem_replicate hb]; decide
  · unfold Mp.tmb madeP
    rw [List.countP_eq_zero]
    intro b hb
    rw [List.eq_of_mem_replicate hb]; decide
theorem made_ms {k0 k1 g bm bw bs : Nat} {W : World} (hg : g ≤ 1024) (hbm : W.heap[bm]? = some (.cells #[.int .u64 k0, .int .u64 k1, .slice (some ⟨bw, 0, none⟩) g g, .slice (some ⟨bs, 0, none⟩) (8 * g) (8 * g), .int .i64 0, .int .i64 0] 74 (0, 0))) (hbw : W.heap[bw]? = some (.cells (List.replicate g noneV).toArray 26 (0, 0))) (hbs : W.heap[bs]? = some (.cells (scs (List.replicate (8 * g) zslot)).toArray 70 (0, 0)))
    (z1 : bm ≠ 0) (z2 : bw ≠ 0) (z3 : bs ≠ 0) : Ms k0 k1 bm bw g bs (8 * g) (madeP g) W := by
  have hc := made_cnt g
  show Mr k0 k1 bm bw g bs (8 * g) (madeP g).g (madeP g).ctrl (madeP g).slots (madeP g).cnt (madeP g).tmb W
  rw [hc.1, hc.2.1, hc.2.2]
  refine ⟨hbm, ⟨_, hbw, by simp, ?_⟩, ⟨_, hbs, by simp [scs_rep], ?_⟩, Nat.le_refl _, Nat.le_refl _, by omega, by omega, ?_, ?_, ?_, z1, z2, z3⟩
  · rw [wcs_made]; simp
  · show (scs (List.replicate (8 * g) zslot)).toArray.toList.take (8 * g * 2) = scs (List.replicate (8 * g) zslot)
    rw [List.take_of_length_le (by simp [scs_rep])]
  · rintro rfl
    rw [hbm] at hbw
    injection hbw with e
    injection e with _ e _
    cases e
  · rintro rfl
    rw [hbm] at hbs
    injection hbs with e
    injection e with _ e _
    cases e
  · rintro rfl
    rw [hbw] at hbs
    injection hbs with e
    injection e with _ e _
    cases e
set_option maxRecDepth 100000 in
set_option maxHeartbeats 1000000 in
theorem made0_any (k0 k1 g : Nat) (hg1 : 1 ≤ g) (hg : g ≤ 1024) (w : World) (hgs : Gs w) : Calls Tryd.prog 22 #[.agg #[.int .u64 k0, .int .u64 k1], .int .i64 g] w (MadeR k0 k1 g w) := by
  have hms := mk_slots (8 * g) (by omega)
  rw [show ((8 * g : Nat) : Int) = 8 * (g : Int) from by omega] at hms
  have HZ : Hid (0 < w.heap.size) := by
    obtain ⟨_, _, e⟩ := hgs
    exact hid (blk_lt e)
  have hw8 : IntKind.i64.wrap (8 * (g : Int)) = 8 * (g : Int) := IntWalk.i64_in _ (by omega)
  clear hgs
  go_enter Tryd.func22, Tryd.ntmps22
  go_wp2_with fail
  have b1 := blk_new w (.cells #[.int .u64 k0, .int .u64 k1] 28)
  have k1' := Kp.al w (.cells #[.int .u64 k0, .int .u64 k1] 28)
  obtain ⟨W1, hW1⟩ : ∃ W1, w.alloc (.cells #[.int .u64 k0, .int .u64 k1] 28) = W1 := ⟨_, rfl⟩
  rw [hW1] at b1 k1' ⊢
  clear hW1
  have c1 := blk_cell b1
  have HB1 := hid b1
  have HK1 := hid k1'
  clear b1 k1'
  have hmk : ∀ w', Kp All W1 w' → (∀ i, w'.cell? ⟨w.heap.size, i, none⟩ = (#[.int .u64 k0, .int .u64 k1] : Array Value)[i]?) ∧ Kp All W1 w' := fun w' k => ⟨blk_cell (k.heap HB1.out trivial), k⟩
  have HMK := hid hmk
  clear hmk
  go_region_held3 (fun w' => (∀ i, w'.cell? ⟨w.heap.size, i, none⟩ = (#[.int .u64 k0, .int .u64 k1] : Array Value)[i]?) ∧ Kp All W1 w') (first | assumption | exact HMK.out _ (Kp.refl _ _).drew | (refine HMK.out _ ?_; first | exact HKS.out | exact HKS.out.alloc _ | exact (HKS.out.alloc _).alloc _ | exact (by assumption : _ ∧ Kp All W1 _).2.alloc _)) (first | (go_at_call 42; refine (repeat_any _ g hg1 hg _ (by first | exact blk_new _ _ | exact blk_alloc (blk_new _ _) _ | (have h := blk_new (W1.drew.alloc (.cells (scs (List.replicate (8 * g) zslot)).toArray 70)) (.cells #[noneV] 26); rw [World.size_alloc] at h; exact h))).mono ?_; rintro e wS ⟨rfl, hbW, hkS⟩; have HKS := hid ((by assumption : _ ∧ Kp All W1 _).2.trans hkS); have HZS := hid (by assumption : _ ∧ Kp All W1 _).2.size; (try simp only [World.drew, World.size_alloc] at hbW); (try (have hsA : wS.heap[W1.heap.size]? = some (.cells (scs (List.replicate (8 * g) zslot)).toArray 70 (0, 0)) := hkS.heap (blk_alloc (blk_new W1.drew _) _) trivial; have HSA := hid hsA; clear hsA)); (try (have hsB : wS.heap[W1.heap.size + 1]? = some (.cells (scs (List.replicate (8 * g) zslot)).toArray 70 (0, 0)) := hkS.heap (by have h := blk_new (W1.drew.alloc (.cells #[noneV] 26)) (.cells (scs (List.replicate (8 * g) zslot)).toArray 70); rw [World.size_alloc] at h; exact h) trivial; have HSB := hid hsB; clear hsB)); have HBW := hid hbW; clear hbW hkS))
  all_goals
    have z1 := HZ.out
    have z2 := HK1.out.size
    have z3 := HKS.out.size
    go_wp2_with fail
    go_ret
  all_goals first
    | (refine ⟨wS.heap.size, W1.heap.size + 1 + 1, g, W1.heap.size, 8 * g, rfl, by omega, by omega, by omega, made_ms hg (blk_new wS _) (blk_alloc HBW.out _) (blk_alloc HSA.out _) (by omega) (by omega) (by omega), (HK1.out.trans HKS.out).alloc _⟩; done)
    | (refine ⟨wS.heap.size, W1.heap.size + 1 + 1, g, W1.heap.size + 1, 8 * g, rfl, by omega, by omega, by omega, made_ms hg (blk_new wS _) (blk_alloc HBW.out _) (blk_alloc HSB.out _) (by omega) (by omega) (by omega), (HK1.out.trans HKS.out).alloc _⟩; done)
    | skip
  refine ⟨wS.heap.size + 1, W1.heap.size + 1, g, wS.heap.size, 8 * g, rfl, by omega, by omega, by omega, made_ms hg ?_ (blk_alloc (blk_alloc HBW.out _) _) (blk_alloc (blk_new wS _) _) (by omega) (by omega) (by omega), ((HK1.out.trans HKS.out).alloc _).alloc _⟩
  have h := blk_new (wS.alloc (.cells (scs (List.replicate (8 * g) zslot)).toArray 70)) (.cells #[.int .u64 k0, .int .u64 k1, .slice (some ⟨W1.heap.size + 1, 0, none⟩) g g, .slice (some ⟨wS.heap.size, 0, none⟩) (8 * g) (8 * g), .int .i64 0, .int .i64 0] 74)
  rw [World.size_alloc] at h
  exact h
/-- New -/
theorem mnew_any (k0 k1 n : Nat) (hn : n ≤ 7000) (w : World) (hgs : Gs w) : Calls Tryd.prog 7 #[.agg #[.int .u64 k0, .int .u64 k1], .int .i64 n] w fun e w' => ∃ g, (∃ k, k ≤ 10 ∧ g = 2 ^ k) ∧ n ≤ 7 * g ∧ (n ≤ 7 → g = 1) ∧ MadeR k0 k1 g w e w' := by
  have HG := hid hgs
  clear hgs
  go_enter Tryd.func7, Tryd.ntmps7
  go_wp2_with fail
  refine (need_any n hn _).mono ?_
  rintro e w1 ⟨⟨g, ⟨k, hk, hgk⟩, rfl, h7, h1⟩, hw⟩
  have hw := hw.symm
  subst hw
  obtain ⟨p1, p2, _⟩ := pow_good ⟨k, by omega⟩
  simp only [← hgk] at p1 p2
  have d1 : ((g : Int) == 0) = false := by simp; omega
  have HH := hid (And.intro hgk (And.intro h7 h1))
  have c2 := blk_cell (blk_new w (.cells #[.int .u64 k0, .int .u64 k1] 28))
  clear hgk h7 h1
  go_wp2_with fail
  refine (made0_any k0 k1 g p1 p2 _ (HG.out.all (Kp.al _ _))).mono ?_
  rintro e w2 ⟨bm, bw, cw, bs, cs, rfl, z1, z2, z3, hM, hK⟩
  go_wp2_with fail
  go_ret
  rw [World.size_alloc] at z1 z2 z3
  exact ⟨g, ⟨k, hk, HH.out.1⟩, HH.out.2.1, HH.out.2.2, bm, bw, cw, bs, cs, rfl, by omega, by omega, by omega, hM, (Kp.al _ _).trans hK⟩
end Go.Proofs.YtodledidabdkaaaDoor
