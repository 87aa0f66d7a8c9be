/- The disk: Rename, whole: walked once. No condition on the disk but that it lies as Dk says. -/
import Derived.Test.YtdlbccjimdghkaaEK
namespace Go.Proofs.Ytdlbccjimdghkaa
open Go.RowKit
set_option linter.unusedVariables false
set_option linter.unusedSimpArgs false
def renErr (D : DS) (a b : Nm) : Int := if D.off then 9 else if goodB b then (match aget D.F a with
  | none => 4
  | some _ => if D.fit then 0 else 9) else 3
def renD (D : DS) (a b : Nm) : DS := if D.off then D else if goodB b then (match aget D.F a with
  | none => D
  | some s => if D.fit then ren1D D.begun a b s else D.begun) else D
theorem en46 : Enters Try.prog 46 := enters_of Try.func46 (by kernel_rfl) rfl
set_option maxRecDepth 100000 in
set_option maxHeartbeats 1000000 in
theorem rename_any (p : Nat) (ro : Nat → Role) (D : DS) (hok : D.Ok) (a b : Nm) (hsz : b.size ≤ 9223372036854775806) (w : World) (h : Dk w p ro D) :
    Calls Try.prog 27 #[.pointer (some ⟨p, 0, none⟩), .string a, .string b] w (Op1 w ro p (renErr D a b) (renD D a b)) := by
  have HD := hid h
  obtain ⟨m, fp, bv, BV, h⟩ := h
  have H := hid h
  have hp := blk_lt h.cell
  have B1 := hid h.cell
  have hmf : ∀ (fn : Fn) (first cap : Array Value) (w : World), (Instr.makeFunc fn first cap).run Try.prog w = .ok (.func fn first cap) w := fun _ _ _ _ => rfl
  obtain ⟨bo, hbo⟩ : ∃ x, D.off = x := ⟨_, rfl⟩
  have HBO := hid hbo
  have hz : ∀ w : World, (zeroValue 62).run Try.prog w = .ok (.pointer none) w := fun w => by kernel_rfl
  cases bo
  · obtain ⟨y, hy⟩ : ∃ y, aget D.F a = y := ⟨_, rfl⟩
    have HY := hid hy
    obtain ⟨gb, hgb⟩ : ∃ x, goodB b = x := ⟨_, rfl⟩
    have HG := hid hgb
    have hlk := fun {W : World} (k : Kp All w W) => ((h.map.all k).lookup strKey Try.underlying54 a (.pointer none) (hz _)).2
    rw [aget_keys D.F (fun x => Value.pointer (some ⟨fp x, 0, none⟩)), hy] at hlk
    have hpo : ∃ po : Option Addr, ((y.map fun _ => Value.pointer (some ⟨fp a, 0, none⟩)).getD (Value.pointer none)) = .pointer po ∧ (y = none → po = none) ∧ (∀ s, y = some s → po = some ⟨fp a, 0, none⟩) := by
      cases y with
      | none => exact ⟨none, rfl, fun _ => rfl, fun s h => by cases h⟩
      | some s => exact ⟨_, rfl, (fun h => by cases h), fun _ _ => rfl⟩
    obtain ⟨po, hpo, hpo1, hpo2⟩ := hpo
    have hlk2 : ∀ W, Kp All w W → (Instr.lookup 54 (.map (some m)) (.string a) false).run Try.prog W = .ok (.pointer po) W := fun W k => by rw [← hpo]; exact hlk k
    have HLK := hid hlk2; have HP1 := hid hpo1; have HP2 := hid hpo2
    clear h hbo hy hgb hlk hlk2 hpo hpo1 hpo2
    go_enter Try.func27, Try.ntmps27
    go_wp2_with fail
    refine (may_any p m D _ bv _ (by exact blk_alloc (blk_alloc (blk_alloc B1.out _) _) _)).mono ?_
    rintro e w1 ⟨rfl, rfl⟩
    rw [show mayErr D = 0 from by rw [mayErr, HBO.out]; rfl]
    have k3 : Kp All w (((w.alloc (.cells #[.pointer (some ⟨p, 0, none⟩)] 27)).alloc (.cells #[.string a] 9)).alloc (.cells #[.string b] 9)) := ((Kp.al _ _).alloc _).alloc _
    have c1 := blk_cell (k3.heap B1.out trivial)
    have x1 := blk_alloc (blk_alloc (blk_new w (.cells #[.pointer (some ⟨p, 0, none⟩)] 27)) (.cells #[.string a] 9)) (.cells #[.string b] 9)
    have x2 := blk_alloc (blk_new (w.alloc (.cells #[.pointer (some ⟨p, 0, none⟩)] 27)) (.cells #[.string a] 9)) (.cells #[.string b] 9)
    have x3 := blk_new ((w.alloc (.cells #[.pointer (some ⟨p, 0, none⟩)] 27)).alloc (.cells #[.string a] 9)) (.cells #[.string b] 9)
    rw [World.size_alloc] at x2
    rw [World.size_alloc, World.size_alloc] at x3
    have c2 := blk_cell x1; have c3 := blk_cell x2; have c4 := blk_cell x3
    have hl1 := HLK.out _ k3.drew
    obtain ⟨W3, hW3⟩ : ∃ W3, W3 = ((w.alloc (.cells #[.pointer (some ⟨p, 0, none⟩)] 27)).alloc (.cells #[.string a] 9)).alloc (.cells #[.string b] 9) := ⟨_, rfl⟩
    rw [← hW3] at c1 c2 c3 c4 x1 x2 x3 k3 hl1
    have hs3 : W3.heap.size = w.heap.size + 1 + 1 + 1 := by rw [hW3]; simp
    have X1 := hid x1; have X2 := hid x2; have X3 := hid x3; have K3 := hid k3
    unfold dcs at c1
    clear x1 x2 x3 k3
    rw [← hW3]
    clear hW3
    go_wp2_with fail
    refine RegionLast.wp_region_end_held (S := fun w' => (∀ i, w'.cell? ⟨p, i, none⟩ = (#[.int .i64 D.blocks, .int .i64 (usedOf D.F D.B : Nat), .map (some m), bv, .bool D.off, .int .i64 D.ops, .int .i64 D.fails, .int .i64 D.keep] : Array Value)[i]?) ∧ (∀ i, w'.cell? ⟨w.heap.size, i, none⟩ = (#[.pointer (some ⟨p, 0, none⟩)] : Array Value)[i]?) ∧ (∀ i, w'.cell? ⟨w.heap.size + 1, i, none⟩ = (#[.string a] : Array Value)[i]?) ∧ (Instr.lookup 54 (.map (some m)) (.string a) false).run Try.prog w' = .ok (.pointer po) w') (by kernel_rfl) (by kernel_rfl) ⟨c1, c2, c3, hl1⟩ (fun hHeld => ?_)
    simp only [List.length_cons, List.length_nil, Nat.zero_add, Nat.reduceAdd, Nat.reduceSub, List.take_succ_cons, List.take_zero, List.drop_succ_cons, List.drop_zero]
    (refine wpAnyH_take (i := 0) (oi := _) (v := ?_) (by (simp only [List.getElem?_toArray, List.getElem?_cons_succ, List.getElem?_cons_zero]); rfl) (by kernel_rfl) (by kernel_rfl) (by kernel_rfl) (by exact fun _ _ _ h => h) (Or.inl ⟨by rfl, ?_⟩) (by assumption) ?_; rotate_left; focus ((intro w hSw; (try dsimp only at hSw); go_simp) <;> with_reducible rfl); (try simp only [Act.put, List.getElem_toArray, List.getElem_cons_succ, List.getElem_cons_zero, List.setIfInBounds_toArray, List.set_cons_zero, List.set_cons_succ]))
    (refine wpAnyH_take (i := 1) (oi := _) (v := ?_) (by (simp only [List.getElem?_toArray, List.getElem?_cons_succ, List.getElem?_cons_zero]); rfl) (by kernel_rfl) (by kernel_rfl) (by kernel_rfl) (by exact fun _ _ _ h => h) (Or.inl ⟨by rfl, ?_⟩) (by assumption) ?_; rotate_left; focus ((intro w hSw; (try dsimp only at hSw); go_simp) <;> with_reducible rfl); (try simp only [Act.put, List.getElem_toArray, List.getElem_cons_succ, List.getElem_cons_zero, List.setIfInBounds_toArray, List.set_cons_zero, List.set_cons_succ]))
    (refine wpAnyH_take (i := 2) (oi := _) (v := ?_) (by (simp only [List.getElem?_toArray, List.getElem?_cons_succ, List.getElem?_cons_zero]); rfl) (by kernel_rfl) (by kernel_rfl) (by kernel_rfl) (by exact fun _ _ _ h => h) (Or.inl ⟨by rfl, ?_⟩) (by assumption) ?_; rotate_left; focus ((intro w hSw; (try dsimp only at hSw); go_simp) <;> with_reducible rfl); (try simp only [Act.put, List.getElem_toArray, List.getElem_cons_succ, List.getElem_cons_zero, List.setIfInBounds_toArray, List.set_cons_zero, List.set_cons_succ]))
    (refine wpAnyH_take (i := 3) (oi := _) (v := ?_) (by (simp only [List.getElem?_toArray, List.getElem?_cons_succ, List.getElem?_cons_zero]); rfl) (by kernel_rfl) (by kernel_rfl) (by kernel_rfl) (by exact fun _ _ _ h => h) (Or.inl ⟨by rfl, ?_⟩) (by assumption) ?_; rotate_left; focus ((intro w hSw; (try dsimp only at hSw); go_simp) <;> with_reducible rfl); (try simp only [Act.put, List.getElem_toArray, List.getElem_cons_succ, List.getElem_cons_zero, List.setIfInBounds_toArray, List.set_cons_zero, List.set_cons_succ]))
    (refine wpAnyH_take (i := 4) (oi := _) (v := ?_) (by (simp only [List.getElem?_toArray, List.getElem?_cons_succ, List.getElem?_cons_zero]); rfl) (by kernel_rfl) (by kernel_rfl) (by kernel_rfl) (by exact fun _ _ _ h => h) (Or.inl ⟨by rfl, ?_⟩) (by assumption) ?_; rotate_left; focus ((intro w hSw; (try dsimp only at hSw); go_simp) <;> with_reducible rfl); (try simp only [Act.put, List.getElem_toArray, List.getElem_cons_succ, List.getElem_cons_zero, List.setIfInBounds_toArray, List.set_cons_zero, List.set_cons_succ]))
    (refine wpAnyH_take (i := 5) (oi := _) (v := ?_) (by (simp only [List.getElem?_toArray, List.getElem?_cons_succ, List.getElem?_cons_zero]); rfl) (by kernel_rfl) (by kernel_rfl) (by kernel_rfl) (by exact fun _ _ _ h => h) (Or.inl ⟨by rfl, ?_⟩) (by assumption) ?_; rotate_left; focus ((intro w hSw; (try dsimp only at hSw); go_simp) <;> with_reducible rfl); (try simp only [Act.put, List.getElem_toArray, List.getElem_cons_succ, List.getElem_cons_zero, List.setIfInBounds_toArray, List.set_cons_zero, List.set_cons_succ]))
    (try simp only [Act.put, List.setIfInBounds_toArray, List.set_cons_zero, List.set_cons_succ])
    refine wpAnyH_ready (rs := [6]) (by kernel_rfl) (by simp) ?_
    refine AllReadyH.cons rfl ?_ AllReadyH.nil
    intro KQ hKQ
    refine step_plain rfl ?_
    go_simp
    obtain ⟨W4, hW4⟩ : ∃ W4, W4 = W3.alloc (.cells #[.pointer none] 62) := ⟨_, rfl⟩
    have k4 : Kp All W3 W4.drew := by rw [hW4]; exact (Kp.al _ _).drew
    have x5 : W4.drew.heap[w.heap.size + 1 + 1 + 1]? = some (.cells #[.pointer none] 62 (0, 0)) := by rw [hW4, ← hs3]; exact blk_new W3 _
    have hs4 : W4.drew.heap.size = w.heap.size + 1 + 1 + 1 + 1 := by rw [hW4, ← hs3]; simp
    rw [← hW4]
    try rw [hs3]
    obtain ⟨W5, hW5⟩ : ∃ W5, W5 = W4.drew := ⟨_, rfl⟩
    rw [← hW5] at k4 x5 hs4 ⊢
    refine hKQ.out _ _ ⟨?_, ?_, ?_, ?_⟩ (fun hHeld2 => ?_)
    · exact blk_cell (k4.heap (K3.out.heap B1.out trivial) trivial)
    · exact blk_cell (k4.heap X1.out trivial)
    · exact blk_cell (k4.heap X2.out trivial)
    · exact HLK.out _ (K3.out.trans k4)
    clear hKQ KQ hW4 hW5
    (try simp only [Act.put, List.setIfInBounds_toArray, List.set_cons_zero, List.set_cons_succ])
    refine wpAnyH_done (by kernel_rfl) ?_ _
    unfold RegionLast.LastQ
    dsimp only
    have c5 := blk_cell x5
    have f5 := blk_free x5
    have c6 := blk_cell (k4.heap X3.out trivial)
    have c7 := blk_cell (k4.heap X1.out trivial)
    clear hHeld hHeld2
    have X5 := hid x5; have K4 := hid k4
    clear x5 k4
    go_wp2_with fail
    obtain ⟨W6, hW6⟩ : ∃ W6, W6 = W5.setCell ⟨(w.heap.size + 1 + 1 + 1), 0, none⟩ (.pointer po) := ⟨_, rfl⟩
    have k6 : Kp (fun z => z ≠ (w.heap.size + 1 + 1 + 1)) W5 W6 := by rw [hW6]; exact (Kp.refl _ _).setOut (by simp) _
    have x6 : W6.heap[(w.heap.size + 1 + 1 + 1)]? = some (.cells #[.pointer po] 62 (0, 0)) := by rw [hW6]; exact blk_set X5.out 0 _
    have k56 : Kp All w W6 := by
      have h1 := (K3.out.trans K4.out)
      exact h1.then (T := fun z => z ≠ (w.heap.size + 1 + 1 + 1)) k6 (fun i hi _ => by omega)
    rw [← hW6]
    clear hW6
    have y1 := k6.heap (K4.out.heap X1.out trivial) (by omega)
    have y2 := k6.heap (K4.out.heap X2.out trivial) (by omega)
    have y3 := k6.heap (K4.out.heap X3.out trivial) (by omega)
    have c1 := blk_cell y1; have c2 := blk_cell y2; have c3 := blk_cell y3; have c4 := blk_cell x6
    have Y1 := hid y1; have Y2 := hid y2; have Y3 := hid y3; have Y4 := hid x6; have K6 := hid k56
    clear y1 y2 y3 x6 k6 k56 c5 c6 c7 f5
    refine (good_any b hsz _).mono ?_
    rw [HG.out]
    rintro e w1 ⟨rfl, rfl⟩
    cases gb
    · go_wp2_with fail
      go_ret
      exact ⟨by rw [renErr, HBO.out, HG.out]; rfl, by unfold renD; rw [if_neg (by rw [HBO.out]; decide), if_neg (by rw [HG.out]; decide)]; exact HD.out.nx K6.out⟩
    · cases y with
      | none =>
        obtain rfl : po = none := HP1.out rfl
        go_wp2_with fail
        go_ret
        exact ⟨by rw [renErr, HBO.out, HG.out, HY.out]; rfl, by unfold renD; rw [if_neg (by rw [HBO.out]; decide), if_pos HG.out, HY.out]; exact HD.out.nx K6.out⟩
      | some s =>
        obtain rfl : po = some ⟨fp a, 0, none⟩ := HP2.out s rfl
        go_wp2_with fail
        have H3 := H.out.kept K6.out (fun _ _ => trivial)
        have hc : D.fit = true → ∀ w1, Dk0 w1 p ro D.begun m fp bv BV → Kp (fun b => b ≠ p) W6 w1 → Calls Try.prog 46 #[.pointer (some ⟨w.heap.size + 1, 0, none⟩), .pointer (some ⟨w.heap.size + 1 + 1, 0, none⟩), .pointer (some ⟨w.heap.size, 0, none⟩), .pointer (some ⟨(w.heap.size + 1 + 1 + 1), 0, none⟩)] w1 (Op1 w ro p 0 (ren1D D.begun a b s)) := by
          intro hfit w1 h1 k1
          obtain ⟨eF, eB, eb, eo⟩ := begun_fit hfit
          have kk : Kp (fun z => ro z = .none) w w1 := K6.out.all.trans (k1.mono fun z _ hz => ndisk H.out.rp z hz)
          have := rename1_any p ro D.begun a b s (w.heap.size + 1) (w.heap.size + 1 + 1) w.heap.size (w.heap.size + 1 + 1 + 1) (by rw [eB]; exact hok.bl) w1 m fp bv BV h1 (by rw [eF]; exact HY.out) (k1.heap Y2.out (by omega)) (k1.heap Y3.out (by omega)) (k1.heap Y1.out (by omega)) (k1.heap Y4.out (by omega)) (H.out.rnew _ (by omega)) (H.out.rnew _ (by omega)) (H.out.rnew _ (by omega)) (H.out.rnew _ (by omega))
          exact this.mono fun e w' h => h.pre kk
        refine (does_any p ro D hok.o0 hok.o1 hok.f1 _ m fp bv BV H3 46 _ en46 (Op1 w ro p 0 (ren1D D.begun a b s)) (fun _ _ h => h.num) hc).mono ?_
        rintro e w1 ⟨hn1, hn2⟩
        cases hfit : D.fit with
        | false =>
          obtain ⟨rfl, hnx⟩ := hn1 hfit
          have HNX := hid hnx
          have HFT := hid hfit
          clear hn1 hn2 hnx hfit hc H3
          go_wp2_with fail
          go_ret
          refine ⟨by rw [renErr, HBO.out, HG.out, HY.out]; simp [HFT.out], ?_⟩
          unfold renD
          rw [if_neg (by rw [HBO.out]; decide), if_pos HG.out, HY.out]
          simp only [HFT.out, Bool.false_eq_true, if_false]
          exact Nx.pre K6.out HNX.out
        | true =>
          obtain ⟨rfl, hp2⟩ := hn2 hfit
          have HP2' := hid hp2
          have HFT := hid hfit
          clear hn1 hn2 hp2 hfit hc H3
          go_wp2_with fail
          go_ret
          refine ⟨by rw [renErr, HBO.out, HG.out, HY.out]; simp [HFT.out], ?_⟩
          unfold renD
          rw [if_neg (by rw [HBO.out]; decide), if_pos HG.out, HY.out]
          simp only [HFT.out, if_true]
          exact HP2'.out
  · clear h hbo
    go_enter Try.func27, Try.ntmps27
    go_wp2_with fail
    refine (may_any p m D _ bv _ (by exact blk_alloc (blk_alloc (blk_alloc B1.out _) _) _)).mono ?_
    rintro e w1 ⟨rfl, rfl⟩
    rw [show mayErr D = 9 from by rw [mayErr, HBO.out]; rfl]
    go_wp2_with fail
    go_ret
    exact ⟨by rw [renErr, HBO.out]; rfl, by rw [renD, if_pos HBO.out]; exact HD.out.nx (((Kp.al _ _).alloc _).alloc _)⟩
end Go.Proofs.Ytdlbccjimdghkaa
