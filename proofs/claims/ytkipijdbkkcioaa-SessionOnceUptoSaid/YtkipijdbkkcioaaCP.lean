/- The document's table in memory: Expire, walked once. No condition but that it lies as its sessions' cells in a row of its own, and is not great. -/
import Derived.Test.YtkipijdbkkcioaaCO
import Derived.Test.YtkipijdbkkcioaaRT
import Derived.Deep.RegionLaw
namespace Go.Proofs.Ytkipijdbkkcioaa
open Go.RowKit
set_option linter.unusedVariables false
set_option linter.unusedSimpArgs false
def rexpErr (L : List (Int × Raw)) (id : Int) : Int := match findI L id with
  | .negSucc _ => 14
  | .ofNat k => 0
def rexpL (L : List (Int × Raw)) (id : Int) : List (Int × Raw) := match findI L id with
  | .negSucc _ => L
  | .ofNat k => L.eraseIdx k
theorem ssc_one (L : List (Int × Raw)) : ∀ u ∈ ssc L, u.oneCell' = true := by
  intro u hu
  obtain ⟨x, _, h⟩ := List.mem_flatMap.1 hu
  simp only [sc7, List.mem_cons, List.not_mem_nil, or_false] at h
  rcases h with rfl | rfl | rfl | rfl | rfl | rfl | rfl <;> rfl
theorem ssc_take (L : List (Int × Raw)) (k : Nat) : ssc (L.take k) = (ssc L).take (k * 7) := by
  induction L generalizing k with
  | nil => simp [ssc]
  | cons x L ih =>
    cases k with
    | zero => simp [ssc]
    | succ k =>
      have l7 : (sc7 x).length = 7 := rfl
      rw [List.take_succ_cons, ssc_cons, ssc_cons, ih, show (k + 1) * 7 = (sc7 x).length + k * 7 from by rw [l7]; omega, List.take_length_add_append]
theorem ssc_drop (L : List (Int × Raw)) (k : Nat) : ssc (L.drop k) = (ssc L).drop (k * 7) := by
  induction L generalizing k with
  | nil => simp [ssc]
  | cons x L ih =>
    cases k with
    | zero => simp
    | succ k =>
      have l7 : (sc7 x).length = 7 := rfl
      rw [List.drop_succ_cons, ssc_cons, ih, show (k + 1) * 7 = (sc7 x).length + k * 7 from by rw [l7]; omega, List.drop_length_add_append]
theorem sl_head {b n c sz k : Nat} {xs : List Value} {w : World} (h : Sl (some ⟨b, 0, none⟩) n c sz xs w) (hk : k ≤ n) : Sl (some ⟨b, 0, none⟩) k c sz (xs.take (k * sz)) w := by
  obtain ⟨h1, h2, h3⟩ := h
  refine ⟨?_, by omega, fun h => ⟨b, 0, rfl, fun j u hj => ?_⟩⟩
  · rw [List.length_take, h1]
    have := Nat.mul_le_mul_right sz hk
    omega
  · obtain ⟨b', o', e, hr⟩ := h3 (by omega)
    injection e with e; injection e with e1 e2; subst e1 e2
    rw [List.getElem?_take] at hj
    split at hj
    · exact hr j u hj
    · cases hj
theorem sl_tail {b n c sz k : Nat} {xs : List Value} {w : World} (h : Sl (some ⟨b, 0, none⟩) n c sz xs w) (hk : k ≤ n) : Sl (if c = k then some ⟨b, 0, none⟩ else some ⟨b, k * sz, none⟩) (n - k) (c - k) sz (xs.drop (k * sz)) w := by
  obtain ⟨h1, h2, h3⟩ := h
  refine ⟨?_, by omega, fun h => ⟨b, k * sz, by rw [if_neg (by omega)], fun j u hj => ?_⟩⟩
  · rw [List.length_drop, h1, Nat.sub_mul]
  · obtain ⟨b', o', e, hr⟩ := h3 (by omega)
    injection e with e; injection e with e1 e2; subst e1 e2
    rw [List.getElem?_drop] at hj
    have := hr _ u hj
    rwa [Nat.zero_add] at this
set_option maxRecDepth 100000 in
set_option maxHeartbeats 2000000 in
theorem rexp_any (B p : Nat) (L : List (Int × Raw)) (v : Value) (id : Int) (w : World) (h : DT B p L v w) (hB : B ≤ w.heap.size) (hl : L.length ≤ 1000000) :
    Calls Try.prog 20 #[.pointer (some ⟨p, 0, none⟩), .int .i64 id] w (Docd B p v (rexpErr L id) (rexpL L id) w) := by
  obtain ⟨SA, sc, rfl, hf⟩ := h.foot
  have H := hid h
  have HF := hid hf
  have HC := hid h.cell
  have HL := hid hl
  have HB := hid hB
  clear h hf hl hB
  rcases findI_cases L id with ⟨hf, hno⟩ | ⟨k, x, hf, hx, he, hk⟩
  · go_enter Try.func20, Try.ntmps20
    go_wp2_with fail
    refine (rfind_any p L SA sc id _ HC.out HF.out HL.out).mono ?_
    rintro e w1 ⟨rfl, hk⟩
    rw [hf]
    have HK := hid hk
    clear hk
    go_wp2_with fail
    go_ret
    have h0 : rexpErr L id = 14 := by rw [rexpErr, hf]; rfl
    have h1 : rexpL L id = L := by rw [rexpL, hf]; rfl
    rw [h0, h1]
    exact ⟨rfl, _, H.out.all HK.out, HK.out.all, .inl rfl⟩
  · go_enter Try.func20, Try.ntmps20
    go_wp2_with fail
    refine (rfind_any p L SA sc id _ HC.out HF.out HL.out).mono ?_
    rintro e w1 ⟨rfl, hk'⟩
    rw [hf]
    have HK := hid hk'
    clear hk'
    have c0 := blk_cell (HK.out.heap HC.out trivial)
    have f0 := blk_free (HK.out.heap HC.out trivial)
    have hs2 : p < w1.heap.size := blk_lt (HK.out.heap HC.out trivial)
    have hwr : IntKind.i64.wrap ((k : Int) + 1) = (k : Int) + 1 := IntWalk.i64_in _ (by have := HL.out; omega)
    obtain ⟨_, hsc, h3⟩ := (HF.out.step HK.out).now
    obtain ⟨b, o, eA, hr⟩ := h3 (by omega)
    subst eA
    obtain rfl : o = 0 := by
      rcases own_at H.out.own with ⟨e, _⟩ | ⟨g, cap, cur, e, _⟩
      · cases e
      · injection e with e _ _; injection e with e; injection e
    have i0 : (0 : Int) ≤ (k : Int) := by omega
    have i1 : (k : Int) < (L.length : Int) := by omega
    have i2 : (k : Int) + 1 ≤ (L.length : Int) := by omega
    have i3 : (0 : Int) ≤ (k : Int) + 1 := by omega
    have i4 : (k : Int) ≤ (sc : Int) := by omega
    have i5 : (L.length : Int) ≤ (sc : Int) := by omega
    have dk : decide ((k : Int) < 0) = false := decide_eq_false (by omega)
    have HX := hid hx
    have HFI := hid hf
    have HSC := hid hsc
    clear hr h3 hx hf hsc
    go_wp2_with fail
    refine RegionLast.wp_region_end_held (S := fun w' => ∀ i, w'.cell? ⟨p, i, none⟩ = (#[.slice (some ⟨b, 0, none⟩) L.length sc] : Array Value)[i]?) (by kernel_rfl) (by kernel_rfl) (fun i => c0 i) (fun hHeld => ?_)
    simp only [List.length_cons, List.length_nil, Nat.zero_add, Nat.reduceAdd, Nat.reduceSub, List.take_succ_cons, List.take_zero, List.drop_succ_cons, List.drop_zero]
    (refine wpAnyH_take (i := 0) (oi := _) (v := ?_) (by (simp only [List.getElem?_toArray, List.getElem?_cons_succ, List.getElem?_cons_zero]); rfl) (by kernel_rfl) (by kernel_rfl) (by kernel_rfl) (by exact fun _ _ _ h => h) (Or.inl ⟨by rfl, ?_⟩) (by assumption) ?_; rotate_left; focus ((intro w hSw; (try dsimp only at hSw); go_simp) <;> with_reducible rfl); (try simp only [Act.put, List.getElem_toArray, List.getElem_cons_succ, List.getElem_cons_zero, List.setIfInBounds_toArray, List.set_cons_zero, List.set_cons_succ]))
    (refine wpAnyH_take (i := 2) (oi := _) (v := ?_) (by (simp only [List.getElem?_toArray, List.getElem?_cons_succ, List.getElem?_cons_zero]); rfl) (by kernel_rfl) (by kernel_rfl) (by kernel_rfl) (by exact fun _ _ _ h => h) (Or.inl ⟨by rfl, ?_⟩) (by assumption) ?_; rotate_left; focus ((intro w hSw; (try dsimp only at hSw); go_simp) <;> with_reducible rfl); (try simp only [Act.put, List.getElem_toArray, List.getElem_cons_succ, List.getElem_cons_zero, List.setIfInBounds_toArray, List.set_cons_zero, List.set_cons_succ]))
    (refine wpAnyH_take (i := 3) (oi := _) (v := ?_) (by (simp only [List.getElem?_toArray, List.getElem?_cons_succ, List.getElem?_cons_zero]); rfl) (by kernel_rfl) (by kernel_rfl) (by kernel_rfl) (by exact fun _ _ _ h => h) (Or.inl ⟨by rfl, ?_⟩) (by assumption) ?_; rotate_left; focus ((intro w hSw; (try dsimp only at hSw); go_simp) <;> with_reducible rfl); (try simp only [Act.put, List.getElem_toArray, List.getElem_cons_succ, List.getElem_cons_zero, List.setIfInBounds_toArray, List.set_cons_zero, List.set_cons_succ]))
    (refine wpAnyH_take (i := 4) (oi := _) (v := ?_) (by (simp only [List.getElem?_toArray, List.getElem?_cons_succ, List.getElem?_cons_zero]); rfl) (by kernel_rfl) (by kernel_rfl) (by kernel_rfl) (by exact fun _ _ _ h => h) (Or.inl ⟨by rfl, ?_⟩) (by assumption) ?_; rotate_left; focus ((intro w hSw; (try dsimp only at hSw); go_simp) <;> with_reducible rfl); (try simp only [Act.put, List.getElem_toArray, List.getElem_cons_succ, List.getElem_cons_zero, List.setIfInBounds_toArray, List.set_cons_zero, List.set_cons_succ]))
    (refine wpAnyH_take (i := 5) (oi := _) (v := ?_) (by (simp only [List.getElem?_toArray, List.getElem?_cons_succ, List.getElem?_cons_zero]); rfl) (by kernel_rfl) (by kernel_rfl) (by kernel_rfl) (by exact fun _ _ _ h => h) (Or.inl ⟨by rfl, ?_⟩) (by assumption) ?_; rotate_left; focus ((intro w hSw; (try dsimp only at hSw); go_simp) <;> with_reducible rfl); (try simp only [Act.put, List.getElem_toArray, List.getElem_cons_succ, List.getElem_cons_zero, List.setIfInBounds_toArray, List.set_cons_zero, List.set_cons_succ]))
    (refine wpAnyH_take (i := 6) (oi := _) (v := ?_) (by (simp only [List.getElem?_toArray, List.getElem?_cons_succ, List.getElem?_cons_zero]); rfl) (by kernel_rfl) (by kernel_rfl) (by kernel_rfl) (by exact fun _ _ _ h => h) (Or.inl ⟨by rfl, ?_⟩) (by assumption) ?_; rotate_left; focus ((intro w hSw; (try dsimp only at hSw); go_simp) <;> with_reducible rfl); (try simp only [Act.put, List.getElem_toArray, List.getElem_cons_succ, List.getElem_cons_zero, List.setIfInBounds_toArray, List.set_cons_zero, List.set_cons_succ]))
    (refine wpAnyH_take (i := 7) (oi := _) (v := ?_) (by (simp only [List.getElem?_toArray, List.getElem?_cons_succ, List.getElem?_cons_zero]); rfl) (by kernel_rfl) (by kernel_rfl) (by kernel_rfl) (by exact fun _ _ _ h => h) (Or.inl ⟨by rfl, ?_⟩) (by assumption) ?_; rotate_left; focus ((intro w hSw; (try dsimp only at hSw); go_simp) <;> with_reducible rfl); (try simp only [Act.put, List.getElem_toArray, List.getElem_cons_succ, List.getElem_cons_zero, List.setIfInBounds_toArray, List.set_cons_zero, List.set_cons_succ]))
    (refine wpAnyH_take (i := 9) (oi := _) (v := ?_) (by (simp only [List.getElem?_toArray, List.getElem?_cons_succ, List.getElem?_cons_zero]); rfl) (by kernel_rfl) (by kernel_rfl) (by kernel_rfl) (by exact fun _ _ _ h => h) (Or.inl ⟨by rfl, ?_⟩) (by assumption) ?_; rotate_left; focus ((intro w hSw; (try dsimp only at hSw); go_simp) <;> with_reducible rfl); (try simp only [Act.put, List.getElem_toArray, List.getElem_cons_succ, List.getElem_cons_zero, List.setIfInBounds_toArray, List.set_cons_zero, List.set_cons_succ]))
    (refine wpAnyH_take (i := 10) (oi := _) (v := ?_) (by (simp only [List.getElem?_toArray, List.getElem?_cons_succ, List.getElem?_cons_zero]); rfl) (by kernel_rfl) (by kernel_rfl) (by kernel_rfl) (by exact fun _ _ _ h => h) (Or.inl ⟨by rfl, ?_⟩) (by assumption) ?_; rotate_left; focus ((intro w hSw; (try dsimp only at hSw); go_simp) <;> with_reducible rfl); (try simp only [Act.put, List.getElem_toArray, List.getElem_cons_succ, List.getElem_cons_zero, List.setIfInBounds_toArray, List.set_cons_zero, List.set_cons_succ]))
    (refine wpAnyH_take (i := 11) (oi := _) (v := ?_) (by (simp only [List.getElem?_toArray, List.getElem?_cons_succ, List.getElem?_cons_zero]); rfl) (by kernel_rfl) (by kernel_rfl) (by kernel_rfl) (by exact fun _ _ _ h => h) (Or.inl ⟨by rfl, ?_⟩) (by assumption) ?_; rotate_left; focus ((intro w hSw; (try dsimp only at hSw); go_simp) <;> with_reducible rfl); (try simp only [Act.put, List.getElem_toArray, List.getElem_cons_succ, List.getElem_cons_zero, List.setIfInBounds_toArray, List.set_cons_zero, List.set_cons_succ]))
    (refine wpAnyH_take (i := 12) (oi := _) (v := ?_) (by (simp only [List.getElem?_toArray, List.getElem?_cons_succ, List.getElem?_cons_zero]); rfl) (by kernel_rfl) (by kernel_rfl) (by kernel_rfl) (by exact fun _ _ _ h => h) (Or.inl ⟨by rfl, ?_⟩) (by assumption) ?_; rotate_left; focus ((intro w hSw; (try dsimp only at hSw); go_simp) <;> with_reducible rfl); (try simp only [Act.put, List.getElem_toArray, List.getElem_cons_succ, List.getElem_cons_zero, List.setIfInBounds_toArray, List.set_cons_zero, List.set_cons_succ]))
    (refine wpAnyH_take (i := 13) (oi := _) (v := ?_) (by (simp only [List.getElem?_toArray, List.getElem?_cons_succ, List.getElem?_cons_zero]); rfl) (by kernel_rfl) (by kernel_rfl) (by kernel_rfl) (by exact fun _ _ _ h => h) (Or.inl ⟨by rfl, ?_⟩) (by assumption) ?_; rotate_left; focus ((intro w hSw; (try dsimp only at hSw); go_simp) <;> with_reducible rfl); (try simp only [Act.put, List.getElem_toArray, List.getElem_cons_succ, List.getElem_cons_zero, List.setIfInBounds_toArray, List.set_cons_zero, List.set_cons_succ]))
    (refine wpAnyH_take (i := 14) (oi := _) (v := ?_) (by (simp only [List.getElem?_toArray, List.getElem?_cons_succ, List.getElem?_cons_zero]); rfl) (by kernel_rfl) (by kernel_rfl) (by kernel_rfl) (by exact fun _ _ _ h => h) (Or.inl ⟨by rfl, ?_⟩) (by assumption) ?_; rotate_left; focus ((intro w hSw; (try dsimp only at hSw); go_simp) <;> with_reducible rfl); (try simp only [Act.put, List.getElem_toArray, List.getElem_cons_succ, List.getElem_cons_zero, List.setIfInBounds_toArray, List.set_cons_zero, List.set_cons_succ]))
    (refine wpAnyH_take (i := 15) (oi := _) (v := ?_) (by (simp only [List.getElem?_toArray, List.getElem?_cons_succ, List.getElem?_cons_zero]); rfl) (by kernel_rfl) (by kernel_rfl) (by kernel_rfl) (by exact fun _ _ _ h => h) (Or.inl ⟨by rfl, ?_⟩) (by assumption) ?_; rotate_left; focus ((intro w hSw; (try dsimp only at hSw); go_simp) <;> with_reducible rfl); (try simp only [Act.put, List.getElem_toArray, List.getElem_cons_succ, List.getElem_cons_zero, List.setIfInBounds_toArray, List.set_cons_zero, List.set_cons_succ]))
    (try simp only [Act.put, List.setIfInBounds_toArray, List.set_cons_zero, List.set_cons_succ])
    refine wpAnyH_ready (rs := [1]) (by kernel_rfl) (by simp) ?_
    refine AllReadyH.cons rfl ?_ AllReadyH.nil
    intro KQ hKQ
    refine step_plain rfl ?_
    go_simp
    have ca2 : ∀ i, ((w1.alloc (.cells #[] 51)).drew).cell? ⟨p, i, none⟩ = (#[.slice (some ⟨b, 0, none⟩) L.length sc] : Array Value)[i]? := fun i => blk_cell (blk_alloc (HK.out.heap HC.out trivial) _) i
    refine hKQ.out _ _ ca2 (fun hHeld2 => ?_)
    clear hKQ KQ ca2
    (try simp only [Act.put, List.setIfInBounds_toArray, List.set_cons_zero, List.set_cons_succ])
    refine wpAnyH_ready (rs := [8]) (by kernel_rfl) (by simp) ?_
    refine AllReadyH.cons rfl ?_ AllReadyH.nil
    intro KQ hKQ
    refine step_plain rfl (wp_app els (World.ownsRow.drew (own_build0 (w := w1) (e := 51) (sz := 7) (base := w1.heap.size) (Nat.le_refl _))) (A := some ⟨b, 0, none⟩) (m := k) (c := sc) (news := (ssc L).take (k * 7)) ?_ ?_ ?_ ?_ _ _ rfl rfl rfl ?_)
    (exact sl_head (HF.out _ ((HK.out.alloc _).drew)) (by omega))
    (exact fun u hu => ssc_one L u (List.mem_of_mem_take hu))
    (have := HL.out; omega)
    (exact ((Kp.refl All w1).alloc _).size)
    intro v1 w5 hown5 hg5 hob5 hnil5
    rw [Nat.zero_add, List.nil_append] at hown5
    obtain ⟨A5, e5, rfl⟩ := own_shape hown5
    have k5 : Kp All w1 w5 := ((Kp.refl All w1).alloc (.cells #[] 51)).drew.then (Kp.grown hg5) (fun i hi _ e => by simp [Value.ownBlock] at e; omega)
    have ca5 := blk_cell ((HK.out.trans k5).heap HC.out trivial)
    have K5 := hid k5; have OW5 := hid hown5
    clear hown5 hg5 hob5 hnil5 k5
    refine hKQ.out _ _ (fun i => ca5 i) (fun hHeld3 => ?_)
    clear hKQ KQ
    (try simp only [Act.put, List.setIfInBounds_toArray, List.set_cons_zero, List.set_cons_succ])
    refine wpAnyH_ready (rs := [16]) (by kernel_rfl) (by simp) ?_
    refine AllReadyH.cons rfl ?_ AllReadyH.nil
    intro KQ hKQ
    refine step_plain rfl (wp_app els OW5.out (A := if sc = k + 1 then some ⟨b, 0, none⟩ else some ⟨b, (k + 1) * 7, none⟩) (m := L.length - (k + 1)) (c := sc - (k + 1)) (news := (ssc L).drop ((k + 1) * 7)) ?_ ?_ ?_ ?_ _ _ rfl rfl rfl ?_)
    (exact sl_tail (HF.out _ (HK.out.trans K5.out)) (by omega))
    (exact fun u hu => ssc_one L u (List.mem_of_mem_drop hu))
    (have := HL.out; omega)
    (exact K5.out.size)
    intro v2 w6 hown6 hg6 hob6 hnil6
    obtain ⟨A6, e6, rfl⟩ := own_shape hown6
    have k6 : Kp All w1 w6 := K5.out.then (Kp.grown hg6) (fun i hi _ e => by have := (OW5.out.lt i e.symm).1; omega)
    have b6 := (HK.out.trans k6).heap HC.out trivial
    have ca6 := blk_cell b6
    have f6 := blk_free b6
    have B6 := hid b6; have K6 := hid k6; have OW6 := hid hown6
    clear hown6 hg6 hob6 hnil6 k6 b6
    refine hKQ.out _ _ (fun i => ca6 i) (fun hHeld4 => ?_)
    clear hKQ KQ
    (refine wpAnyH_take (i := 17) (oi := _) (v := ?_) (by (simp only [List.getElem?_toArray, List.getElem?_cons_succ, List.getElem?_cons_zero]); rfl) (by kernel_rfl) (by kernel_rfl) (by kernel_rfl) (by exact fun _ _ _ h => h) (Or.inl ⟨by rfl, ?_⟩) (by assumption) ?_; rotate_left; focus ((intro w hSw; (try dsimp only at hSw); go_simp) <;> with_reducible rfl); (try simp only [Act.put, List.getElem_toArray, List.getElem_cons_succ, List.getElem_cons_zero, List.setIfInBounds_toArray, List.set_cons_zero, List.set_cons_succ]))
    (refine wpAnyH_take (i := 18) (oi := _) (v := ?_) (by (simp only [List.getElem?_toArray, List.getElem?_cons_succ, List.getElem?_cons_zero]); rfl) (by kernel_rfl) (by kernel_rfl) (by kernel_rfl) (by exact fun _ _ _ h => h) (Or.inl ⟨by rfl, ?_⟩) (by assumption) ?_; rotate_left; focus ((intro w hSw; (try dsimp only at hSw); go_simp) <;> with_reducible rfl); (try simp only [Act.put, List.getElem_toArray, List.getElem_cons_succ, List.getElem_cons_zero, List.setIfInBounds_toArray, List.set_cons_zero, List.set_cons_succ]))
    (try simp only [Act.put, List.setIfInBounds_toArray, List.set_cons_zero, List.set_cons_succ])
    refine wpAnyH_done (by kernel_rfl) ?_ _
    unfold RegionLast.LastQ
    dsimp only
    all_goals (go_wp2_with fail)
    all_goals (
      go_ret
      have h0 : rexpErr L id = 0 := by rw [rexpErr, HFI.out]
      have h1 : rexpL L id = L.eraseIdx k := by rw [rexpL, HFI.out]
      have e1 : (L.eraseIdx k).length = k + (L.length - (k + 1)) := by rw [List.length_eraseIdx_of_lt hk]; omega
      have e2 : ssc (L.eraseIdx k) = (ssc L).take (k * 7) ++ (ssc L).drop ((k + 1) * 7) := by rw [List.eraseIdx_eq_take_drop_succ, ssc_app, ssc_take, ssc_drop]
      have kF : Kp (fun z => z ≠ p) w6 (w6.setCell ⟨p, 0, none⟩ (.slice A6 (k + (L.length - (k + 1))) e6)) := (Kp.refl _ _).setOut (by simp) _
      have hpw : p < w1.heap.size := hs2
      rw [h0, h1]
      refine ⟨rfl, .slice A6 (k + (L.length - (k + 1))) e6, ⟨?_, ?_⟩, ?_, .inr ?_⟩
      rotate_left
      · rw [e1, e2]
        exact own_kept (own_base OW6.out (Nat.le_trans HB.out HK.out.size)) kF (fun z hz e => by have := (OW6.out.lt z hz).1; omega)
      · exact ((HK.out.trans K6.out).mono fun _ _ _ => trivial).trans (kF.mono fun _ _ h => h.1)
      · exact fun z hz => Nat.le_trans HK.out.size (OW6.out.lt z hz).1
      · rw [blk_set B6.out 0]; simp)
end Go.Proofs.Ytkipijdbkkcioaa
