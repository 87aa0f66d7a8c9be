/- The document's table in memory: Open, walked once. No condition but that it lies as its sessions' cells in a row of its own, and is not great. -/
import Derived.Test.YtkipijdbkkcioaaCP
namespace Go.Proofs.Ytkipijdbkkcioaa
open Go.RowKit
set_option linter.unusedVariables false
set_option linter.unusedSimpArgs false
def insStep (id : Int) (q : List (Int × Raw) × Bool) (s : Int × Raw) : List (Int × Raw) × Bool := if id < s.1 ∧ q.2 = false then (q.1 ++ [(id, .z)] ++ [s], true) else (q.1 ++ [s], q.2)
def insTo (id : Int) (L : List (Int × Raw)) : List (Int × Raw) × Bool := L.foldl (insStep id) ([], false)
def insAll (id : Int) (L : List (Int × Raw)) : List (Int × Raw) := if (insTo id L).2 then (insTo id L).1 else (insTo id L).1 ++ [(id, .z)]
theorem insTo_take {L : List (Int × Raw)} {k : Nat} {x : Int × Raw} (id : Int) (h : L[k]? = some x) : insTo id (L.take (k + 1)) = insStep id (insTo id (L.take k)) x := by
  rw [List.take_add_one, h, insTo, List.foldl_append]; rfl
theorem insTo_len (id : Int) (L : List (Int × Raw)) : (insTo id L).1.length ≤ 2 * L.length := by
  unfold insTo
  suffices ∀ (L : List (Int × Raw)) (q : List (Int × Raw) × Bool), (L.foldl (insStep id) q).1.length ≤ q.1.length + 2 * L.length by simpa using this L ([], false)
  intro L
  induction L with
  | nil => intro q; simp
  | cons x L ih =>
    intro q
    have := ih (insStep id q x)
    have h : (insStep id q x).1.length ≤ q.1.length + 2 := by unfold insStep; split <;> simp
    simp only [List.foldl_cons, List.length_cons] at this ⊢
    omega
def ropenErr (L : List (Int × Raw)) (id : Int) : Int := if id < 1 then 2 else if 0 ≤ findI L id then 5 else if 16 ≤ L.length then 7 else 0
def ropenL (L : List (Int × Raw)) (id : Int) : List (Int × Raw) := if ropenErr L id = 0 then insAll id L else L
theorem sl_new7 {w : World} {m : Nat} (hm : m = w.heap.size) (x : Int × Raw) (t : TypeId) : Sl (some ⟨m, 0, none⟩) 1 1 7 (sc7 x) (w.alloc (.cells (sc7 x).toArray t)) := by
  subst hm
  refine ⟨rfl, Nat.le_refl _, fun _ => ⟨_, 0, rfl, fun j u hj => ?_⟩⟩
  rw [Nat.zero_add, blk_cell (blk_new w _)]
  simpa using hj
theorem sc7_one (x : Int × Raw) : ∀ u ∈ sc7 x, u.oneCell' = true := by
  have h := ssc_one [x]
  rw [ssc_cons] at h
  exact fun u hu => h u (List.mem_append_left _ hu)
set_option maxRecDepth 100000 in
set_option maxHeartbeats 4000000 in
theorem ropen_any (B p : Nat) (L : List (Int × Raw)) (v : Value) (id : Int) (w : World) (h : DT B p L v w) (hB : B ≤ w.heap.size) (hl : L.length ≤ 1000000) :
    Calls Try.prog 17 #[.pointer (some ⟨p, 0, none⟩), .int .i64 id] w (Docd B p v (ropenErr L id) (ropenL L id) w) := by
  obtain ⟨SA, sc, rfl, hf⟩ := h.foot
  obtain ⟨n, hn⟩ : ∃ n, L.length = n := ⟨_, rfl⟩
  have HN := hid hn
  have H := hid h
  have HF := hid hf
  have HC := hid h.cell
  have HL := hid hl
  have HB := hid hB
  clear h hf hl hB
  by_cases h1 : id < 1
  · have d1 : decide (id < 1) = true := decide_eq_true h1
    have H0 := hid (show ropenErr L id = 2 by rw [ropenErr, if_pos h1])
    go_enter Try.func17, Try.ntmps17
    go_wp2_with fail
    go_ret
    have h1 : ropenL L id = L := by rw [ropenL, H0.out]; rfl
    rw [H0.out, h1]
    exact ⟨rfl, _, H.out, Kp.refl _ _, .inl rfl⟩
  · have d1 : decide (id < 1) = false := decide_eq_false h1
    by_cases h2 : 0 ≤ findI L id
    · have d2 : decide (0 ≤ findI L id) = true := decide_eq_true h2
      have H0 := hid (show ropenErr L id = 5 by rw [ropenErr, if_neg h1, if_pos h2])
      go_enter Try.func17, Try.ntmps17
      go_wp2_with fail
      refine (rfind_any p L SA sc id _ HC.out HF.out HL.out).mono ?_
      rintro e w1 ⟨rfl, hk⟩
      have HK := hid hk
      clear hk
      go_wp2_with fail
      go_ret
      have h1 : ropenL L id = L := by rw [ropenL, H0.out]; rfl
      rw [H0.out, h1]
      exact ⟨rfl, _, H.out.all HK.out, HK.out.all, .inl rfl⟩
    · have d2 : decide (0 ≤ findI L id) = false := decide_eq_false h2
      by_cases h3 : 16 ≤ n
      · have d3 : decide (16 ≤ (n : Int)) = true := decide_eq_true (by omega)
        have H0 := hid (show ropenErr L id = 7 by rw [ropenErr, if_neg h1, if_neg h2, HN.out, if_pos h3])
        go_enter Try.func17, Try.ntmps17
        go_wp2_with fail
        refine (rfind_any p L SA sc id _ HC.out HF.out HL.out).mono ?_
        rintro e w1 ⟨rfl, hk⟩
        have HK := hid hk
        have c0 := blk_cell (HK.out.heap HC.out trivial)
        rw [HN.out] at c0
        clear hk hn
        go_wp2_with fail
        go_ret
        have h1 : ropenL L id = L := by rw [ropenL, H0.out]; rfl
        rw [H0.out, h1]
        exact ⟨rfl, _, H.out.all HK.out, HK.out.all, .inl rfl⟩
      · have d3 : decide (16 ≤ (n : Int)) = false := decide_eq_false (by omega)
        have h0 : ropenErr L id = 0 := by rw [ropenErr, if_neg h1, if_neg h2, HN.out, if_neg h3]
        have h0L : ropenL L id = insAll id L := by rw [ropenL, if_pos h0]
        rw [h0, h0L]
        clear h0 h0L
        go_enter Try.func17, Try.ntmps17
        go_wp2_with fail
        refine (rfind_any p L SA sc id _ HC.out HF.out HL.out).mono ?_
        rintro e w1 ⟨rfl, hk⟩
        have HK := hid hk
        have c0 := blk_cell (HK.out.heap HC.out trivial)
        rw [HN.out] at c0
        clear hk hn
        go_wp2_with fail
        go_loopw [5, 6, 29] (fun x d i wr => ∃ k : Nat, k ≤ n ∧ i = .int .i64 k ∧ d = .bool (insTo id (L.take k)).2 ∧ Hid (wr.ownsRow w1.heap.size 51 7 x (insTo id (L.take k)).1.length (ssc (insTo id (L.take k)).1)) ∧ Hid (Kp All w1 wr)) (fun _ _ i _ => n - (intOf i).toNat)
        case atStart => exact ⟨0, Nat.zero_le _, rfl, by simp [insTo], hid (by simp only [List.take_zero, insTo, List.foldl_nil, ssc, List.flatMap_nil, List.length_nil]; exact World.ownsRow_nil _ _ _ _), Kp.refl _ _⟩
        case round =>
          obtain ⟨k, hk, rfl, rfl, hown, hkp⟩ := hrel
          obtain ⟨q, hq⟩ : ∃ q, insTo id (L.take k) = q := ⟨_, rfl⟩
          rw [hq] at hown
          obtain ⟨K, d⟩ := q
          have HQ := hid hq
          have hKl : K.length ≤ 2000000 := by
            have h1 := insTo_len id (L.take k)
            rw [hq, List.length_take] at h1
            have := HL.out
            simp only at h1
            omega
          rw [hq]
          dsimp only at hown ⊢
          obtain ⟨kn, hkn⟩ : ∃ kn, K.length = kn := ⟨_, rfl⟩
          have HKN := hid hkn
          rw [hkn] at hown hKl
          have hls := own_shape hown.out
          obtain ⟨VA, vc, rfl⟩ := hls
          clear hq hkn
          by_cases hlt : k < n
          · have hb0 : decide ((k : Int) < (n : Int)) = true := decide_eq_true (by omega)
            obtain ⟨y, hy⟩ : ∃ y, L[k]? = some y := ⟨_, List.getElem?_eq_getElem (by rw [HN.out]; exact hlt)⟩
            obtain ⟨_, _, h3⟩ := (HF.out.step (HK.out.trans hkp.out)).now
            obtain ⟨b, o, eA, hr⟩ := h3 (by rw [HN.out]; omega)
            have cc := fun i (hi : i < 7) z (hz : (sc7 y)[i]? = some z) => hr (k * 7 + i) z ((ssc_at hy i hi).trans hz)
            have p0 := cc 0 (by omega) _ rfl
            have p1 := cc 1 (by omega) _ rfl
            have p2 := cc 2 (by omega) _ rfl
            have p3 := cc 3 (by omega) _ rfl
            have p4 := cc 4 (by omega) _ rfl
            have p5 := cc 5 (by omega) _ rfl
            have p6 := cc 6 (by omega) _ rfl
            simp only [← Nat.add_assoc, Nat.add_zero] at p0 p1 p2 p3 p4 p5 p6
            subst eA
            have hb1 := World.block_lt_of_cell? _ _ p0
            have HTK := hid (insTo_take id hy)
            rw [HQ.out] at HTK
            obtain ⟨z, x⟩ := y
            dsimp only at p0 p1 p2 p3 p4 p5 p6
            have i0 : (0 : Int) ≤ (k : Int) := by omega
            have i1 : (k : Int) < (n : Int) := by omega
            clear hr cc h3 hy
            by_cases hz : id < z
            · have dz : decide (id < z) = true := decide_eq_true hz
              cases d with
              | false =>
                have HS := hid (show insTo id (L.take (k + 1)) = (K ++ [(id, .z)] ++ [(z, x)], true) by rw [HTK.out, insStep, if_pos ⟨hz, rfl⟩])
                go_wp2_with (at_builtin; first | (refine wpList_app els (HOW4.out.alloc _) (sl_new7 rfl (z, x) _) (sc7_one _) ?_ (Nat.le_trans HK4.out.size (by simp)) rfl _ _ rfl rfl rfl ?_; omega; intro v' w5 hown5 hg5 hob5 hnil5; obtain ⟨A5, c5', rfl⟩ := own_shape hown5; have HOW5 := hid hown5; have HG5 := hid hg5; clear hown5 hg5 hob5 hnil5) | (go_loud (refine wpList_app els ((hown.out.alloc _).alloc _) (sl_new7 (m := wr.heap.size + 1) (by simp) (id, .z) _) (sc7_one _) ?_ (Nat.le_trans hkp.out.size (by simp; omega)) rfl _ _ rfl rfl rfl ?_); omega; intro v' w4 hown4 hg4 hob4 hnil4; obtain ⟨A4, c4', rfl⟩ := own_shape hown4; have hk4 := ((hkp.out.alloc (.cells #[.int .i64 z, .int .i64 x.seq, .int .i64 x.r.err, .bool x.r.found, .string x.r.val, .int .i64 x.r.sess, .slice x.A x.r.pairs.length x.c] 51)).alloc _).then (Kp.grown hg4) (fun i hi _ e => by have := (hown.out.lt i e.symm).1; omega); have HK4 := hid hk4; have c4 := blk_cell ((Kp.grown hg4).heap (blk_alloc (blk_new wr _) _) (fun e => by have := (hown.out.lt _ e.symm).2; omega)); have HOW4 := hid hown4; have HG4 := hid hg4; clear hown4 hg4 hob4 hnil4 hk4))
                go_wp2_with fail
                refine ⟨⟨k + 1, by omega, by go_num, by rw [HS.out], ?_, ?_⟩, by simp [intOf]; omega⟩
                · rw [HS.out]
                  have e1 : (K ++ [(id, Raw.z)] ++ [(z, x)]).length = kn + 1 + 1 := by rw [List.length_append, List.length_append, HKN.out]; rfl
                  rw [e1, ssc_app, ssc_app, ssc_cons, ssc_cons]
                  exact hid HOW5.out
                · exact hid ((HK4.out.alloc _).then (Kp.grown HG5.out) (fun i hi _ e => by have := (HOW4.out.lt i e.symm).1; omega))
              | true =>
                have HS := hid (show insTo id (L.take (k + 1)) = (K ++ [(z, x)], true) by rw [HTK.out, insStep, if_neg (fun h => by cases h.2)])
                go_wp2_with (at_builtin; go_loud (refine wpList_app els ((hown.out.alloc _).alloc _) (sl_new7 (m := wr.heap.size + 1) (by simp) (z, x) _) (sc7_one _) ?_ (Nat.le_trans hkp.out.size (by simp; omega)) rfl _ _ rfl rfl rfl ?_); omega; intro v' w4 hown4 hg4 hob4 hnil4; obtain ⟨A4, c4', rfl⟩ := own_shape hown4; have HOW4 := hid hown4; have HG4 := hid hg4; clear hown4 hg4 hob4 hnil4)
                go_wp2_with fail
                refine ⟨⟨k + 1, by omega, by go_num, by rw [HS.out], ?_, ?_⟩, by simp [intOf]; omega⟩
                · rw [HS.out]
                  have e1 : (K ++ [(z, x)]).length = kn + 1 := by rw [List.length_append, HKN.out]; rfl
                  rw [e1, ssc_app, ssc_cons]
                  exact hid HOW4.out
                · exact hid (((hkp.out.alloc _).alloc _).then (Kp.grown HG4.out) (fun i hi _ e => by have := (hown.out.lt i e.symm).1; omega))
            · have dz : decide (id < z) = false := decide_eq_false hz
              have HS := hid (show insTo id (L.take (k + 1)) = (K ++ [(z, x)], d) by rw [HTK.out, insStep, if_neg (fun h => hz h.1)])
              go_wp2_with (at_builtin; go_loud (refine wpList_app els ((hown.out.alloc _).alloc _) (sl_new7 (m := wr.heap.size + 1) (by simp) (z, x) _) (sc7_one _) ?_ (Nat.le_trans hkp.out.size (by simp; omega)) rfl _ _ rfl rfl rfl ?_); omega; intro v' w4 hown4 hg4 hob4 hnil4; obtain ⟨A4, c4', rfl⟩ := own_shape hown4; have HOW4 := hid hown4; have HG4 := hid hg4; clear hown4 hg4 hob4 hnil4)
              go_wp2_with fail
              refine ⟨⟨k + 1, by omega, by go_num, by rw [HS.out], ?_, ?_⟩, by simp [intOf]; omega⟩
              · rw [HS.out]
                have e1 : (K ++ [(z, x)]).length = kn + 1 := by rw [List.length_append, HKN.out]; rfl
                rw [e1, ssc_app, ssc_cons]
                exact hid HOW4.out
              · exact hid (((hkp.out.alloc _).alloc _).then (Kp.grown HG4.out) (fun i hi _ e => by have := (hown.out.lt i e.symm).1; omega))
          · have hb0 : decide ((k : Int) < (n : Int)) = false := decide_eq_false (by omega)
            obtain rfl : k = n := by omega
            have HFIN := hid (show insTo id L = (K, d) by rw [← HQ.out, List.take_of_length_le (by rw [HN.out]; exact Nat.le_refl _)])
            have hcw := hkp.out.heap (HK.out.heap HC.out trivial) trivial
            have cw := blk_cell hcw
            have fw := blk_free hcw
            have HCW := hid hcw
            clear hcw
            cases d with
            | true =>
              have HIA := hid (show insAll id L = K by rw [insAll, HFIN.out]; rfl)
              go_wp2_with fail
              go_ret
              rw [HIA.out]
              have kF : Kp (fun z => z ≠ p) wr (wr.setCell ⟨p, 0, none⟩ (.slice VA kn vc)) := (Kp.refl _ _).setOut (by simp) _
              refine ⟨rfl, .slice VA kn vc, ⟨?_, ?_⟩, ?_, .inr ?_⟩
              · rw [blk_set HCW.out 0]; simp
              · rw [HKN.out]
                exact own_kept (own_base hown.out (Nat.le_trans HB.out HK.out.size)) kF (fun z hz e => by have := (hown.out.lt z hz).1; have := blk_lt HC.out; have := HK.out.size; omega)
              · exact ((HK.out.trans hkp.out).mono fun _ _ _ => trivial).trans (kF.mono fun _ _ h => h.1)
              · exact fun z hz => Nat.le_trans HK.out.size (hown.out.lt z hz).1
            | false =>
              have HIA := hid (show insAll id L = K ++ [(id, .z)] by rw [insAll, HFIN.out]; rfl)
              go_wp2_with (at_builtin; go_loud (refine wpList_app els (hown.out.alloc _) (sl_new7 rfl (id, .z) _) (sc7_one _) ?_ (Nat.le_trans hkp.out.size (by simp)) rfl _ _ rfl rfl rfl ?_); omega; intro v' w4 hown4 hg4 hob4 hnil4; obtain ⟨A4, c4', rfl⟩ := own_shape hown4; have hk4 := ((hkp.out.alloc _).then (Kp.grown hg4) (fun i hi _ e => by have := (hown.out.lt i e.symm).1; omega)); have hc4 := hk4.heap (HK.out.heap HC.out trivial) trivial; have c4 := blk_cell hc4; have f4 := blk_free hc4; have HC4 := hid hc4; have HK4 := hid hk4; have HOW4 := hid hown4; clear hown4 hg4 hob4 hnil4 hk4 hc4)
              go_wp2_with fail
              go_ret
              rw [HIA.out]
              have kF : Kp (fun z => z ≠ p) w4 (w4.setCell ⟨p, 0, none⟩ (.slice A4 (kn + 1) c4')) := (Kp.refl _ _).setOut (by simp) _
              have e1 : (K ++ [(id, Raw.z)]).length = kn + 1 := by rw [List.length_append, HKN.out]; rfl
              refine ⟨rfl, .slice A4 (kn + 1) c4', ⟨?_, ?_⟩, ?_, .inr ?_⟩
              · rw [blk_set HC4.out 0]; simp
              · rw [e1, ssc_app, ssc_cons]
                exact own_kept (own_base HOW4.out (Nat.le_trans HB.out HK.out.size)) kF (fun z hz e => by have := (HOW4.out.lt z hz).1; have := blk_lt HC.out; have := HK.out.size; omega)
              · exact ((HK.out.trans HK4.out).mono fun _ _ _ => trivial).trans (kF.mono fun _ _ h => h.1)
              · exact fun z hz => Nat.le_trans HK.out.size (HOW4.out.lt z hz).1
end Go.Proofs.Ytkipijdbkkcioaa
