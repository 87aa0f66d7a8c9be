/- The map's rehash walked. No condition but that the map lies and is sound, that the numbers are of their kinds, and where the table of shifts lies. -/
import Derived.Test.YtodledidabdkaaaDoorVW
namespace Go.Proofs.YtodledidabdkaaaDoor
open Go.RowKit Go.Shelf V
set_option linter.unusedVariables false
set_option linter.unusedSimpArgs false
/-- the maps on the way -/
def layN (H : Tx → Nat) (M : Mp) (l : List Slot) (j : Nat) : Mp := (l.take j).foldl (layP H) M
theorem layN_succ {H : Tx → Nat} {M : Mp} {l : List Slot} {j : Nat} {s : Slot} (h : l[j]? = some s) : layN H M l (j + 1) = layP H (layN H M l j) s := by
  unfold layN
  rw [List.take_add_one, h, List.foldl_append]
  rfl
theorem layN_inv {H : Tx → Nat} {M : Mp} (hI : Inv H M) (hfull : 7 * M.g ≤ M.cnt + M.tmb) (hm : M.cnt < 2000) (j : Nat) (hj : j ≤ (fullP M).length) :
    Inv H (layN H (madeP (newG M)) (fullP M) j) ∧ (layN H (madeP (newG M)) (fullP M) j).cnt = j ∧ (layN H (madeP (newG M)) (fullP M) j).tmb = 0 := by
  obtain ⟨⟨k, hk, e⟩, h7⟩ := newG_pow hI hfull hm
  rw [e] at h7
  obtain ⟨m1, m2, m3, m4, m5⟩ := made_inv H hk
  have hl := full_len hI.slen
  have hlt : ((fullP M).take j).length = j := by rw [List.length_take]; omega
  obtain ⟨g1, _, g3, g4, _⟩ := lays_inv ((fullP M).take j) (madeP (2 ^ k)) m1 ((full_nodup hI).sublist (List.take_sublist _ _)) (fun s _ v' => m5 _ _) m4 (by rw [m2]; omega) (by omega)
  unfold layN
  rw [e]
  exact ⟨g1, by omega, g4⟩
theorem layN_all (H : Tx → Nat) (M : Mp) : layN H (madeP (newG M)) (fullP M) (fullP M).length = rehashP H M := by
  unfold layN rehashP
  rw [List.take_length]
/-- the struct copied -/
theorem Mr.copy {k0 k1 bm bx bw cw bs cs g : Nat} {c : List Nat} {l : List Slot} {n t : Int} {w : World} {o0 o1 o2 o3 o4 o5 : Value} (h : Mr k0 k1 bx bw cw bs cs g c l n t w) (hb : w.heap[bm]? = some (.cells #[o0, o1, o2, o3, o4, o5] 74 (0, 0))) (d1 : bm ≠ bw) (d2 : bm ≠ bs) (z : bm ≠ 0) :
    Mr k0 k1 bm bw cw bs cs g c l n t ((((((w.setCell ⟨bm, 0, none⟩ (.int .u64 k0)).setCell ⟨bm, 1, none⟩ (.int .u64 k1)).setCell ⟨bm, 2, none⟩ (.slice (some ⟨bw, 0, none⟩) g cw)).setCell ⟨bm, 3, none⟩ (.slice (some ⟨bs, 0, none⟩) (8 * g) cs)).setCell ⟨bm, 4, none⟩ (.int .i64 n)).setCell ⟨bm, 5, none⟩ (.int .i64 t)) := by
  obtain ⟨c1, e1, e2, e3⟩ := h.wds
  obtain ⟨c2, f1, f2, f3⟩ := h.sls
  have hs := blk_set (blk_set (blk_set (blk_set (blk_set (blk_set hb 0 (.int .u64 k0)) 1 (.int .u64 k1)) 2 (.slice (some ⟨bw, 0, none⟩) g cw)) 3 (.slice (some ⟨bs, 0, none⟩) (8 * g) cs)) 4 (.int .i64 n)) 5 (.int .i64 t)
  have far : ∀ {b : Nat} {o : Obj}, w.heap[b]? = some o → b ≠ bm → ((((((w.setCell ⟨bm, 0, none⟩ (.int .u64 k0)).setCell ⟨bm, 1, none⟩ (.int .u64 k1)).setCell ⟨bm, 2, none⟩ (.slice (some ⟨bw, 0, none⟩) g cw)).setCell ⟨bm, 3, none⟩ (.slice (some ⟨bs, 0, none⟩) (8 * g) cs)).setCell ⟨bm, 4, none⟩ (.int .i64 n)).setCell ⟨bm, 5, none⟩ (.int .i64 t)).heap[b]? = some o := fun h hne => blk_far (blk_far (blk_far (blk_far (blk_far (blk_far h hne _) hne _) hne _) hne _) hne _) hne _
  exact ⟨hs, ⟨c1, far e1 (Ne.symm d1), e2, e3⟩, ⟨c2, far f1 (Ne.symm d2), f2, f3⟩, h.cwl, h.csl, h.cwm, h.csm, d1, d2, h.d3, z, h.z2, h.z3⟩
/-- The map lies anew, its struct in the same block. -/
def Anew (k0 k1 bm : Nat) (M : Mp) (w : World) (w' : World) : Prop := ∃ bw cw bs cs, Ms k0 k1 bm bw cw bs cs M w' ∧ (∀ b, b < w.heap.size → b ≠ bm → b ≠ bw ∧ b ≠ bs) ∧ Kp (fun b => b ≠ bm) w w'
set_option maxRecDepth 100000 in
set_option maxHeartbeats 2000000 in
theorem rehash_any (k0 k1 bm bw cw bs cs : Nat) (M : Mp) (h0 : k0 < 18446744073709551616) (h1 : k1 < 18446744073709551616) (hI : Inv (sipP k0 k1) M) (hfull : 7 * M.g ≤ M.cnt + M.tmb) (hm : M.cnt < 2000) (hkeys : ∀ s ∈ fullP M, s.1.size ≤ 9000000000000000000) (w : World) (hgs : Gs w) (h : Ms k0 k1 bm bw cw bs cs M w) :
    Calls Tryd.prog 35 #[.pointer (some ⟨bm, 0, none⟩)] w fun e w' => e = .returned (.tuple #[]) ∧ Anew k0 k1 bm (rehashP (sipP k0 k1) M) w w' := by
  have HM := hid h; have HI := hid hI; have HGS := hid hgs; have HKY := hid hkeys
  have hP := hI.pm
  have HP := hid hP
  have hg1 := hP.g1
  have c0 := blk_cell h.str
  have hng := newG_pow hI hfull hm
  have HLI := hid (layN_inv hI hfull hm)
  have HFL := hid (full_len hI.slen)
  have htb : M.tmb ≤ 100000 := by have := hI.room; omega
  obtain ⟨G, hG⟩ : ∃ G, newG M = G := ⟨_, rfl⟩
  rw [hG] at hng HLI
  have HNG := hid hng
  have HAL := hid (layN_all (sipP k0 k1) M)
  rw [hG] at HAL
  have hG1 : 1 ≤ G ∧ G ≤ 1024 := by
    obtain ⟨⟨k, hk, e⟩, _⟩ := hng
    obtain ⟨p1, p2, _⟩ := pow_good ⟨k, by omega⟩
    simp only [← e] at p1 p2
    exact ⟨p1, p2⟩
  have hcase : (M.tmb = 0 ∧ M.g * 2 = G) ∨ (M.tmb ≠ 0 ∧ 7 * M.g < 2 * M.cnt ∧ M.g * 2 = G) ∨ (M.tmb ≠ 0 ∧ ¬ 7 * M.g < 2 * M.cnt ∧ M.g = G) := by
    unfold newG at hG
    by_cases a : M.tmb = 0
    · rw [if_pos (.inl a)] at hG; exact .inl ⟨a, hG⟩
    · by_cases b : 7 * M.g < 2 * M.cnt
      · rw [if_pos (.inr b)] at hG; exact .inr (.inl ⟨a, b, hG⟩)
      · rw [if_neg (fun x => x.elim a b)] at hG; exact .inr (.inr ⟨a, b, hG⟩)
  have HMADE := hid (fun w hg => made0_any k0 k1 G hG1.1 hG1.2 w hg)
  have HFULL := hid (fun w hm => mfull_any k0 k1 bm bw cw bs cs M hP w hm)
  clear h hI hgs hkeys hng hG hfull
  rcases hcase with ⟨a, hGe⟩ | ⟨a, b, hGe⟩ | ⟨a, b, hGe⟩
  · have d1 : ((M.tmb : Int) == 0) = true := by rw [a]; rfl
    have hGI : (M.g : Int) * 2 = (G : Int) := by omega
    go_enter Tryd.func35, Tryd.ntmps35
    go_wp2_with fail
    refine (HMADE.out _ HGS.out).mono ?_
    rintro e w1 ⟨bx, bw', cw', bs', cs', rfl, z1, z2, z3, hX, hK1⟩
    have HX1 := hid hX; have HK1 := hid hK1
    have hM1 := HM.out.all hK1
    clear hX hK1
    go_wp2_with fail
    refine (HFULL.out _ hM1).mono ?_
    rintro e w2 ⟨v, rfl, hown, hK2⟩
    obtain ⟨VA, vc, rfl⟩ := own_shape hown
    have HOW := hid hown; have HK2 := hid (HK1.out.trans hK2)
    have HX2 := hid (HX1.out.all hK2)
    have zx : bx < w2.heap.size := blk_lt HX2.out.str
    have zw : bw' < w1.heap.size := by obtain ⟨_, e, _⟩ := HX1.out.wds; exact blk_lt e
    have zs : bs' < w1.heap.size := by obtain ⟨_, e, _⟩ := HX1.out.sls; exact blk_lt e
    have zx1 : bx < w1.heap.size := blk_lt HX1.out.str
    have zm : bm < w.heap.size := blk_lt HM.out.str
    have hK2s := hK2.size
    obtain ⟨N, hN⟩ : ∃ N, (fullP M).length = N := ⟨_, rfl⟩
    rw [hN] at HLI HAL HFL HOW
    have hN2 : N ≤ 2000 := by have := HFL.out; omega
    have HNE := hid hN
    rw [hN]
    clear hown hK2 hM1 hN
    go_wp2_with fail
    go_loopw [37] (fun i wr => ∃ j : Nat, j ≤ N ∧ i = .int .i64 j ∧ Hid (Ms k0 k1 bx bw' cw' bs' cs' (layN (sipP k0 k1) (madeP G) (fullP M) j) wr) ∧ Hid (Kp (fun b => b ≠ bx ∧ b ≠ bw' ∧ b ≠ bs') w2 wr)) (fun i _ => N - (ivl i).toNat)
    case atStart => exact ⟨0, Nat.zero_le _, rfl, HX2, hid (Kp.refl _ _)⟩
    case round =>
      obtain ⟨j, hj, rfl, hX, hK⟩ := hrel
      by_cases hlt : j < N
      · have d9 : decide ((j : Int) < (N : Int)) = true := decide_eq_true (by omega)
        obtain ⟨s, hs⟩ : ∃ s, (fullP M)[j]? = some s := ⟨_, List.getElem?_eq_getElem (by rw [HNE.out]; exact hlt)⟩
        obtain ⟨i1, i2, i3⟩ := HLI.out j (by omega)
        rcases own_at HOW.out with ⟨e, _, _⟩ | ⟨gb, cap, cur, e, hgb, hgw, hat⟩
        · injection e with _ e _; omega
        injection e with e _ ec
        subst e ec
        obtain ⟨t1, t2⟩ := scs_get hs
        have hgne : gb ≠ bx ∧ gb ≠ bw' ∧ gb ≠ bs' := by
          refine ⟨?_, ?_, ?_⟩
          · intro e; rw [e] at hgw; exact absurd hgw (Nat.not_le.2 zx1)
          · intro e; rw [e] at hgw; exact absurd hgw (Nat.not_le.2 zw)
          · intro e; rw [e] at hgw; exact absurd hgw (Nat.not_le.2 zs)
        have r1 := hK.out.cell (hat _ _ t1) hgne
        have r2 := hK.out.cell (hat _ _ t2) hgne
        have q0 : (0 : Int) ≤ (j : Int) := by omega
        have q1 : (j : Int) < (N : Int) := by omega
        have hnext := layN_succ (H := sipP k0 k1) (M := madeP G) hs
        have hsk := HKY.out s (List.mem_of_getElem? hs)
        obtain ⟨s1, s2⟩ := s
        simp only at r1 r2 hsk
        have hfr : layL (layN (sipP k0 k1) (madeP G) (fullP M) j).ctrl (seqP (sipP k0 k1 s1 / 128) (layN (sipP k0 k1) (madeP G) (fullP M) j).g) ≠ none := by
          obtain ⟨_, _, _, _, _, _, _, _, e, _⟩ := lay_at i1 (s1, s2)
          rw [e]
          simp
        have hroom := i1.room
        have HG2 : Hid (Gs wr) := hid (((HGS.out.all HK2.out)).kept hK.out ⟨Ne.symm HX2.out.z1, Ne.symm HX2.out.z2, Ne.symm HX2.out.z3⟩)
        have hgp := i1.pm.g1
        have HLAY := hid (fun W hg hm => lay_any k0 k1 bx bw' cw' bs' cs' (layN (sipP k0 k1) (madeP G) (fullP M) j) i1.pm i1.bytes ⟨by omega, by omega⟩ h0 h1 s1 s2 hsk hfr W hg hm)
        rw [← hnext] at HLAY
        clear hfr hnext i1 i2 i3 hs t1 t2 hat
        go_wp2_with fail
        refine (HLAY.out _ (HG2.out.all (Kp.al _ _)) (hX.out.all (Kp.al _ _))).mono ?_
        rintro e w5 ⟨rfl, hM5, hK5⟩
        have HM5 := hid hM5
        have HK5 := hid (hK.out.trans ((Kp.al _ _).all.trans hK5))
        clear hM5 hK5
        go_wp2_with fail
        exact ⟨⟨j + 1, by omega, by go_num, HM5, HK5⟩, by simp [ivl]; omega⟩
      · have d9 : decide ((j : Int) < (N : Int)) = false := decide_eq_false (by omega)
        obtain rfl : j = N := by omega
        rw [HAL.out] at hX
        have cx := blk_cell hX.out.str
        have hbm := hK.out.heap (HK2.out.heap HM.out.str trivial) (by exact ⟨by omega, by omega, by omega⟩)
        have cm := blk_cell hbm
        have fm := blk_free hbm
        have HBM := hid hbm
        clear hbm
        go_wp2_with fail
        go_end0
        have hk : Kp (fun b => b ≠ bm) w wr := HK2.out.then hK.out (fun i hi _ => ⟨by omega, by omega, by omega⟩) |>.all
        exact ⟨rfl, bw', cw', bs', cs', hX.out.copy HBM.out (by omega) (by omega) HM.out.z1, fun b hb _ => ⟨by omega, by omega⟩, (((((hk.setOut (by simp) _).setOut (by simp) _).setOut (by simp) _).setOut (by simp) _).setOut (by simp) _).setOut (by simp) _⟩
  · have d1 : ((M.tmb : Int) == 0) = false := by simp; omega
    have d2 : decide (7 * (M.g : Int) < 2 * (M.cnt : Int)) = true := decide_eq_true (by omega)
    have hGI : (M.g : Int) * 2 = (G : Int) := by omega
    go_enter Tryd.func35, Tryd.ntmps35
    go_wp2_with fail
    refine (HMADE.out _ HGS.out).mono ?_
    rintro e w1 ⟨bx, bw', cw', bs', cs', rfl, z1, z2, z3, hX, hK1⟩
    have HX1 := hid hX; have HK1 := hid hK1
    have hM1 := HM.out.all hK1
    clear hX hK1
    go_wp2_with fail
    refine (HFULL.out _ hM1).mono ?_
    rintro e w2 ⟨v, rfl, hown, hK2⟩
    obtain ⟨VA, vc, rfl⟩ := own_shape hown
    have HOW := hid hown; have HK2 := hid (HK1.out.trans hK2)
    have HX2 := hid (HX1.out.all hK2)
    have zx : bx < w2.heap.size := blk_lt HX2.out.str
    have zw : bw' < w1.heap.size := by obtain ⟨_, e, _⟩ := HX1.out.wds; exact blk_lt e
    have zs : bs' < w1.heap.size := by obtain ⟨_, e, _⟩ := HX1.out.sls; exact blk_lt e
    have zx1 : bx < w1.heap.size := blk_lt HX1.out.str
    have zm : bm < w.heap.size := blk_lt HM.out.str
    have hK2s := hK2.size
    obtain ⟨N, hN⟩ : ∃ N, (fullP M).length = N := ⟨_, rfl⟩
    rw [hN] at HLI HAL HFL HOW
    have hN2 : N ≤ 2000 := by have := HFL.out; omega
    have HNE := hid hN
    rw [hN]
    clear hown hK2 hM1 hN
    go_wp2_with fail
    go_loopw [37] (fun i wr => ∃ j : Nat, j ≤ N ∧ i = .int .i64 j ∧ Hid (Ms k0 k1 bx bw' cw' bs' cs' (layN (sipP k0 k1) (madeP G) (fullP M) j) wr) ∧ Hid (Kp (fun b => b ≠ bx ∧ b ≠ bw' ∧ b ≠ bs') w2 wr)) (fun i _ => N - (ivl i).toNat)
    case atStart => exact ⟨0, Nat.zero_le _, rfl, HX2, hid (Kp.refl _ _)⟩
    case round =>
      obtain ⟨j, hj, rfl, hX, hK⟩ := hrel
      by_cases hlt : j < N
      · have d9 : decide ((j : Int) < (N : Int)) = true := decide_eq_true (by omega)
        obtain ⟨s, hs⟩ : ∃ s, (fullP M)[j]? = some s := ⟨_, List.getElem?_eq_getElem (by rw [HNE.out]; exact hlt)⟩
        obtain ⟨i1, i2, i3⟩ := HLI.out j (by omega)
        rcases own_at HOW.out with ⟨e, _, _⟩ | ⟨gb, cap, cur, e, hgb, hgw, hat⟩
        · injection e with _ e _; omega
        injection e with e _ ec
        subst e ec
        obtain ⟨t1, t2⟩ := scs_get hs
        have hgne : gb ≠ bx ∧ gb ≠ bw' ∧ gb ≠ bs' := by
          refine ⟨?_, ?_, ?_⟩
          · intro e; rw [e] at hgw; exact absurd hgw (Nat.not_le.2 zx1)
          · intro e; rw [e] at hgw; exact absurd hgw (Nat.not_le.2 zw)
          · intro e; rw [e] at hgw; exact absurd hgw (Nat.not_le.2 zs)
        have r1 := hK.out.cell (hat _ _ t1) hgne
        have r2 := hK.out.cell (hat _ _ t2) hgne
        have q0 : (0 : Int) ≤ (j : Int) := by omega
        have q1 : (j : Int) < (N : Int) := by omega
        have hnext := layN_succ (H := sipP k0 k1) (M := madeP G) hs
        have hsk := HKY.out s (List.mem_of_getElem? hs)
        obtain ⟨s1, s2⟩ := s
        simp only at r1 r2 hsk
        have hfr : layL (layN (sipP k0 k1) (madeP G) (fullP M) j).ctrl (seqP (sipP k0 k1 s1 / 128) (layN (sipP k0 k1) (madeP G) (fullP M) j).g) ≠ none := by
          obtain ⟨_, _, _, _, _, _, _, _, e, _⟩ := lay_at i1 (s1, s2)
          rw [e]
          simp
        have hroom := i1.room
        have HG2 : Hid (Gs wr) := hid (((HGS.out.all HK2.out)).kept hK.out ⟨Ne.symm HX2.out.z1, Ne.symm HX2.out.z2, Ne.symm HX2.out.z3⟩)
        have hgp := i1.pm.g1
        have HLAY := hid (fun W hg hm => lay_any k0 k1 bx bw' cw' bs' cs' (layN (sipP k0 k1) (madeP G) (fullP M) j) i1.pm i1.bytes ⟨by omega, by omega⟩ h0 h1 s1 s2 hsk hfr W hg hm)
        rw [← hnext] at HLAY
        clear hfr hnext i1 i2 i3 hs t1 t2 hat
        go_wp2_with fail
        refine (HLAY.out _ (HG2.out.all (Kp.al _ _)) (hX.out.all (Kp.al _ _))).mono ?_
        rintro e w5 ⟨rfl, hM5, hK5⟩
        have HM5 := hid hM5
        have HK5 := hid (hK.out.trans ((Kp.al _ _).all.trans hK5))
        clear hM5 hK5
        go_wp2_with fail
        exact ⟨⟨j + 1, by omega, by go_num, HM5, HK5⟩, by simp [ivl]; omega⟩
      · have d9 : decide ((j : Int) < (N : Int)) = false := decide_eq_false (by omega)
        obtain rfl : j = N := by omega
        rw [HAL.out] at hX
        have cx := blk_cell hX.out.str
        have hbm := hK.out.heap (HK2.out.heap HM.out.str trivial) (by exact ⟨by omega, by omega, by omega⟩)
        have cm := blk_cell hbm
        have fm := blk_free hbm
        have HBM := hid hbm
        clear hbm
        go_wp2_with fail
        go_end0
        have hk : Kp (fun b => b ≠ bm) w wr := HK2.out.then hK.out (fun i hi _ => ⟨by omega, by omega, by omega⟩) |>.all
        exact ⟨rfl, bw', cw', bs', cs', hX.out.copy HBM.out (by omega) (by omega) HM.out.z1, fun b hb _ => ⟨by omega, by omega⟩, (((((hk.setOut (by simp) _).setOut (by simp) _).setOut (by simp) _).setOut (by simp) _).setOut (by simp) _).setOut (by simp) _⟩
  · have d1 : ((M.tmb : Int) == 0) = false := by simp; omega
    have d2 : decide (7 * (M.g : Int) < 2 * (M.cnt : Int)) = false := decide_eq_false (by omega)
    subst hGe
    go_enter Tryd.func35, Tryd.ntmps35
    go_wp2_with fail
    refine (HMADE.out _ HGS.out).mono ?_
    rintro e w1 ⟨bx, bw', cw', bs', cs', rfl, z1, z2, z3, hX, hK1⟩
    have HX1 := hid hX; have HK1 := hid hK1
    have hM1 := HM.out.all hK1
    clear hX hK1
    go_wp2_with fail
    refine (HFULL.out _ hM1).mono ?_
    rintro e w2 ⟨v, rfl, hown, hK2⟩
    obtain ⟨VA, vc, rfl⟩ := own_shape hown
    have HOW := hid hown; have HK2 := hid (HK1.out.trans hK2)
    have HX2 := hid (HX1.out.all hK2)
    have zx : bx < w2.heap.size := blk_lt HX2.out.str
    have zw : bw' < w1.heap.size := by obtain ⟨_, e, _⟩ := HX1.out.wds; exact blk_lt e
    have zs : bs' < w1.heap.size := by obtain ⟨_, e, _⟩ := HX1.out.sls; exact blk_lt e
    have zx1 : bx < w1.heap.size := blk_lt HX1.out.str
    have zm : bm < w.heap.size := blk_lt HM.out.str
    have hK2s := hK2.size
    obtain ⟨N, hN⟩ : ∃ N, (fullP M).length = N := ⟨_, rfl⟩
    rw [hN] at HLI HAL HFL HOW
    have hN2 : N ≤ 2000 := by have := HFL.out; omega
    have HNE := hid hN
    rw [hN]
    clear hown hK2 hM1 hN
    go_wp2_with fail
    go_loopw [37] (fun i wr => ∃ j : Nat, j ≤ N ∧ i = .int .i64 j ∧ Hid (Ms k0 k1 bx bw' cw' bs' cs' (layN (sipP k0 k1) (madeP M.g) (fullP M) j) wr) ∧ Hid (Kp (fun b => b ≠ bx ∧ b ≠ bw' ∧ b ≠ bs') w2 wr)) (fun i _ => N - (ivl i).toNat)
    case atStart => exact ⟨0, Nat.zero_le _, rfl, HX2, hid (Kp.refl _ _)⟩
    case round =>
      obtain ⟨j, hj, rfl, hX, hK⟩ := hrel
      by_cases hlt : j < N
      · have d9 : decide ((j : Int) < (N : Int)) = true := decide_eq_true (by omega)
        obtain ⟨s, hs⟩ : ∃ s, (fullP M)[j]? = some s := ⟨_, List.getElem?_eq_getElem (by rw [HNE.out]; exact hlt)⟩
        obtain ⟨i1, i2, i3⟩ := HLI.out j (by omega)
        rcases own_at HOW.out with ⟨e, _, _⟩ | ⟨gb, cap, cur, e, hgb, hgw, hat⟩
        · injection e with _ e _; omega
        injection e with e _ ec
        subst e ec
        obtain ⟨t1, t2⟩ := scs_get hs
        have hgne : gb ≠ bx ∧ gb ≠ bw' ∧ gb ≠ bs' := by
          refine ⟨?_, ?_, ?_⟩
          · intro e; rw [e] at hgw; exact absurd hgw (Nat.not_le.2 zx1)
          · intro e; rw [e] at hgw; exact absurd hgw (Nat.not_le.2 zw)
          · intro e; rw [e] at hgw; exact absurd hgw (Nat.not_le.2 zs)
        have r1 := hK.out.cell (hat _ _ t1) hgne
        have r2 := hK.out.cell (hat _ _ t2) hgne
        have q0 : (0 : Int) ≤ (j : Int) := by omega
        have q1 : (j : Int) < (N : Int) := by omega
        have hnext := layN_succ (H := sipP k0 k1) (M := madeP M.g) hs
        have hsk := HKY.out s (List.mem_of_getElem? hs)
        obtain ⟨s1, s2⟩ := s
        simp only at r1 r2 hsk
        have hfr : layL (layN (sipP k0 k1) (madeP M.g) (fullP M) j).ctrl (seqP (sipP k0 k1 s1 / 128) (layN (sipP k0 k1) (madeP M.g) (fullP M) j).g) ≠ none := by
          obtain ⟨_, _, _, _, _, _, _, _, e, _⟩ := lay_at i1 (s1, s2)
          rw [e]
          simp
        have hroom := i1.room
        have HG2 : Hid (Gs wr) := hid (((HGS.out.all HK2.out)).kept hK.out ⟨Ne.symm HX2.out.z1, Ne.symm HX2.out.z2, Ne.symm HX2.out.z3⟩)
        have hgp := i1.pm.g1
        have HLAY := hid (fun W hg hm => lay_any k0 k1 bx bw' cw' bs' cs' (layN (sipP k0 k1) (madeP M.g) (fullP M) j) i1.pm i1.bytes ⟨by omega, by omega⟩ h0 h1 s1 s2 hsk hfr W hg hm)
        rw [← hnext] at HLAY
        clear hfr hnext i1 i2 i3 hs t1 t2 hat
        go_wp2_with fail
        refine (HLAY.out _ (HG2.out.all (Kp.al _ _)) (hX.out.all (Kp.al _ _))).mono ?_
        rintro e w5 ⟨rfl, hM5, hK5⟩
        have HM5 := hid hM5
        have HK5 := hid (hK.out.trans ((Kp.al _ _).all.trans hK5))
        clear hM5 hK5
        go_wp2_with fail
        exact ⟨⟨j + 1, by omega, by go_num, HM5, HK5⟩, by simp [ivl]; omega⟩
      · have d9 : decide ((j : Int) < (N : Int)) = false := decide_eq_false (by omega)
        obtain rfl : j = N := by omega
        rw [HAL.out] at hX
        have cx := blk_cell hX.out.str
        have hbm := hK.out.heap (HK2.out.heap HM.out.str trivial) (by exact ⟨by omega, by omega, by omega⟩)
        have cm := blk_cell hbm
        have fm := blk_free hbm
        have HBM := hid hbm
        clear hbm
        go_wp2_with fail
        go_end0
        have hk : Kp (fun b => b ≠ bm) w wr := HK2.out.then hK.out (fun i hi _ => ⟨by omega, by omega, by omega⟩) |>.all
        exact ⟨rfl, bw', cw', bs', cs', hX.out.copy HBM.out (by omega) (by omega) HM.out.z1, fun b hb _ => ⟨by omega, by omega⟩, (((((hk.setOut (by simp) _).setOut (by simp) _).setOut (by simp) _).setOut (by simp) _).setOut (by simp) _).setOut (by simp) _⟩
end Go.Proofs.YtodledidabdkaaaDoor
