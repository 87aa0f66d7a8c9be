/- The document's map: lay walked. No condition but that the map lies, that the numbers are of their kinds, and that there is a free slot. The document's map: rehash walked. No condition but that the map lies and is sound. The document's map: Put, Delete, Get walked. No condition but that the map lies and is sound. -/
import Derived.Test.YtodledidabdkaaaGreatDoorM16
import Derived.Test.YtodledidabdkaaaGreatDoorM6
import Derived.Test.YtodledidabdkaaaGreatDoorM13
set_option linter.unusedVariables false
set_option linter.unusedSimpArgs false
namespace Go.Proofs.YtodledidabdkaaaGreatDoor
open Go.RowKit Go.Shelf V
set_option linter.unusedVariables false
set_option linter.unusedSimpArgs false
set_option maxRecDepth 100000 in
set_option maxHeartbeats 4000000 in
theorem r5lay_any (k0 k1 bm bw cw bs cs : Nat) (M : Mp) (hP : Pm M) (hby : ∀ b ∈ M.ctrl, b < 128 ∨ b = 128 ∨ b = 254) (hcn : M.cnt ≤ 1000000 ∧ M.tmb ≤ 1000000) (h0 : k0 < 18446744073709551616) (h1 : k1 < 18446744073709551616) (key v : ByteArray) (hkey : key.size ≤ 9000000000000000000) (hfree : layL M.ctrl (seqP (sipP k0 k1 key / 128) M.g) ≠ none) (w : World) (h : Qs k0 k1 bm bw cw bs cs M w) :
    Calls Tryz.prog 39 #[.pointer (some ⟨bm, 0, none⟩), .string key, .string v] w fun e w' => e = .returned (.tuple #[]) ∧ Qs k0 k1 bm bw cw bs cs (layP (sipP k0 k1) M (key, v)) w' ∧ Kp (fun k => k ≠ bm ∧ k ≠ bw ∧ k ≠ bs) w w' := by
  have hsip := sip_lt h0 h1 key
  have HSUM := hid (fun w => r2sum_any k0 k1 h0 h1 key hkey w)
  obtain ⟨ii, hii⟩ : ∃ ii, layL M.ctrl (seqP (sipP k0 k1 key / 128) M.g) = some ii := by
    cases hl : layL M.ctrl (seqP (sipP k0 k1 key / 128) M.g) with
    | none => exact absurd hl hfree
    | some i => exact ⟨i, rfl⟩
  obtain ⟨X, hX⟩ : ∃ X, sipP k0 k1 key = X := ⟨_, rfl⟩
  have HR : Hid (layP (sipP k0 k1) M (key, v) = layAt M ii (X % 128) (key, v)) := hid (by
    unfold layP
    simp only [hX] at hii ⊢
    simp only [hii]
    rfl)
  rw [hX] at hsip HSUM hii
  have HSP := hid (fun w => r2split_any X hsip w)
  have HSQ := hid (fun w => r4seq_any (X / 128) M.g hP.pow (by omega) w)
  have hg1 := hP.g1
  have h128 : X % 128 < 128 := by omega
  have HM := hid h; have HP := hid hP; have HBY := hid hby
  have hc0 := blk_cell h.str
  have hcn1 := hcn.1; have hcn2 := hcn.2
  clear hX h hP hfree hby hcn
  generalize X % 128 = what at *
  generalize X / 128 = hh at *
  rw [HR.out]
  have HII := hid hii
  clear hii
  go_enter Tryz.func39, Tryz.ntmps39
  go_wp2_with fail
  go_region_held3 (fun w' => ∀ i, w'.cell? ⟨bm, i, none⟩ = (#[.int .u64 k0, .int .u64 k1, .slice (some ⟨bw, 0, none⟩) M.g cw, .slice (some ⟨bs, 0, none⟩) (8 * M.g) cs, .int .i64 M.cnt, .int .i64 M.tmb] : Array Value)[i]?) (first | assumption | exact blk_cell (KB.out.heap HM.out.str trivial) | exact blk_cell (KA.out.heap HM.out.str trivial)) (first | (go_at_call 73; refine (HSP.out _).mono ?_; rintro e w3 ⟨rfl, hw⟩; have KB := hid (show Kp All w w3 from by (rw [hw]; exact KA.out)); clear hw) | (go_at_call 74; refine (HSUM.out _).mono ?_; rintro e w2 ⟨rfl, hk⟩; have KA := hid (show Kp All w w2 from by first | exact hk | exact (Kp.refl All w).drew.trans hk); clear hk))
  have c3 := blk_cell (KB.out.heap HM.out.str trivial)
  clear hc0
  go_wp2_with fail
  refine (HSQ.out _).mono ?_
  rintro e w4 ⟨A4, c4, rfl, hf4, hk4⟩
  have HF4 := hid hf4
  have HK4 := hid (KB.out.trans hk4)
  clear hf4 hk4 c3
  obtain ⟨g, hg⟩ : ∃ g, M.g = g := ⟨_, rfl⟩
  have HGG := hid hg
  rw [hg] at hg1 HF4 ⊢
  have g1 := hg1.1; have g2 := hg1.2
  clear hg hg1
  go_wp2_with fail
  go_loopw [33] (fun i wr => ∃ k : Nat, k ≤ g ∧ i = .int .i64 k ∧ Hid (layL M.ctrl ((seqP hh g).drop k) = some ii) ∧ Hid (Kp All w4 wr)) (fun i _ => g - (ivl i).toNat)
  case atStart => exact ⟨0, by omega, rfl, hid (by rw [List.drop_zero, ← HGG.out]; exact HII.out), Kp.refl _ _⟩
  case round =>
    obtain ⟨k, hk, rfl, hT, hkp⟩ := hrel
    by_cases hlt : k < g
    · have d0 : decide ((k : Int) < (g : Int)) = true := decide_eq_true (by omega)
      have hql := seqAt_lt hh g k (by omega)
      have hsg := seqP_get (h := hh) hlt
      have hdr : (seqP hh g).drop k = seqAt hh g k :: (seqP hh g).drop (k + 1) := by
        obtain ⟨p1, p2⟩ := List.getElem?_eq_some_iff.1 hsg
        rw [List.drop_eq_getElem_cons p1, p2]
      have hT2 := hT.out
      rw [hdr, layL] at hT2
      obtain ⟨b4, o4, rfl, hr4⟩ := (HF4.out wr hkp.out).2.2 (by omega)
      have hsv : (nvs (seqP hh g))[k]? = some (.int .i64 ((seqAt hh g k : Nat) : Int)) := by rw [nvs, List.getElem?_map, hsg]; rfl
      have p4 := hr4 _ _ hsv
      have i0 : (0 : Int) ≤ (k : Int) := by omega
      have i1 : (k : Int) < (g : Int) := by omega
      generalize seqAt hh g k = q at *
      have hqg : q < M.g := by rw [HGG.out]; exact hql
      have h8 := HP.out.g8 hqg
      have hKw : Kp All w wr := HK4.out.trans hkp.out
      have HMr := HM.out.all hKw
      have cm := blk_cell HMr.str
      rw [HGG.out] at cm
      have hwd := HMr.word (by have := HP.out.len; omega) hqg
      have HFR := hid (fun w => r3free_any (grp M.ctrl q) (HP.out.gb q) h8 w)
      have hfl := bits_lt (fun b => b == 128 || b == 254) (grp M.ctrl q)
      rw [h8] at hfl
      have HFS := hid (fun w => r3first_any (bitsOf (fun b => b == 128 || b == 254) (grp M.ctrl q)) hfl w)
      have HG3 := hid (fun i hi w => r3get_any (grp M.ctrl q) (HP.out.gb q) h8 i hi w)
      have HS3 := hid (fun i hi w => r3set_any (grp M.ctrl q) (HP.out.gb q) h8 i what hi (by omega) w)
      have hel : els (free M.ctrl q) = els (bitsOf (fun b => b == 128 || b == 254) (grp M.ctrl q)) := rfl
      rw [hel] at hT2
      have hfe := fst8_els (bitsOf (fun b => b == 128 || b == 254) (grp M.ctrl q))
      have hme := fun j => @mem_els (fun b => b == 128 || b == 254) (grp M.ctrl q) j
      generalize bitsOf (fun b => b == 128 || b == 254) (grp M.ctrl q) = S0 at *
      obtain ⟨wq, hwq⟩ : ∃ wq, wd (grp M.ctrl q) = wq := ⟨_, rfl⟩
      rw [hwq] at hwd HFR HG3
      simp only [hwq] at HS3
      have HWQ := hid hwq
      have q0 : (0 : Int) ≤ (q : Int) := by omega
      have q1 : (q : Int) < (g : Int) := by omega
      have hw8 : IntKind.i64.wrap (8 * (q : Int)) = 8 * (q : Int) := IntWalk.i64_in _ (by omega)
      have hbm := blk_lt HMr.str
      have HMR := hid HMr; have HKW := hid hKw
      clear hdr hsg hsv hr4 hwq HMr h8 hel hKw
      cases hes : els S0 with
      | nil =>
        rw [hes] at hT2 hfe
        have hT2' : layL M.ctrl ((seqP hh g).drop (k + 1)) = some ii := hT2
        have hfe' : fst8 S0 = 8 := hfe
        rw [hfe'] at HFS
        have HT2 := hid hT2'
        clear hT2 hT2' hfe hfe' hes hme
        go_wp2_with fail
        refine (HFR.out _).mono ?_
        rintro e w5 ⟨rfl, hw⟩
        have hw := hw.symm
        subst hw
        go_wp2_with fail
        refine (HFS.out _).mono ?_
        rintro e w6 ⟨rfl, hw⟩
        have hw := hw.symm
        subst hw
        go_wp2_with fail
        exact ⟨⟨k + 1, by omega, by go_num, HT2, hkp⟩, by simp [ivl]; omega⟩
      | cons j rest =>
        rw [hes] at hT2 hfe
        have hji : 8 * q + j = ii := by injection hT2
        have hfe' : fst8 S0 = j := hfe
        rw [hfe'] at HFS
        obtain ⟨hj8, bb, hbb, hbb2⟩ := (hme j).1 (by rw [hes]; exact List.mem_cons_self ..)
        have hbb3 : bb = 128 ∨ bb = 254 := by simpa using hbb2
        have hgd : (grp M.ctrl q).getD j 0 = bb := getD_of hbb
        have HGJ := hid (fun w => HG3.out j (by omega) w)
        have HSJ := hid (fun w => HS3.out j (by omega) w)
        rw [Nat.mod_eq_of_lt hj8] at HGJ HSJ
        rw [hgd] at HGJ
        have hcb : M.ctrl[ii]? = some bb := by rw [← hji, ← grp_get hj8]; exact hbb
        have hcnt := layAt_cnt (s := (key, v)) (M := M) (i := ii) (c := what) (b := bb) hcb hbb3 h128
        have HCN := hid hcnt
        have hjI : 8 * (q : Int) + (j : Int) = (ii : Int) := by omega
        have j0 : (0 : Int) ≤ (ii : Int) := by omega
        have j1 : (ii : Int) < 8 * (g : Int) := by omega
        have hwj : IntKind.i64.wrap (ii : Int) = (ii : Int) := IntWalk.i64_in _ (by omega)
        have dj : ((j : Int) == 8) = false := by simp; omega
        have HJI := hid hji; have HJ8 := hid hj8
        have hiig : ii < 8 * M.g := by rw [HGG.out]; omega
        clear hT2 hfe hfe' hes hme hbb hbb2 hgd hcb hcnt hji
        rcases hbb3 with rfl | rfl
        · have db : (((128 : Nat) : Int) == 254) = false := rfl
          go_wp2_with fail
          refine (HFR.out _).mono ?_
          rintro e w5 ⟨rfl, hw⟩
          have hw := hw.symm
          subst hw
          go_wp2_with fail
          refine (HFS.out _).mono ?_
          rintro e w6 ⟨rfl, hw⟩
          have hw := hw.symm
          subst hw
          go_wp2_with fail
          refine (HGJ.out _).mono ?_
          rintro e w7 ⟨rfl, hw⟩
          have hw := hw.symm
          subst hw
          go_wp2_with fail
          obtain ⟨V, hV⟩ : ∃ V, V = wr := ⟨_, rfl⟩
          rw [← hV]
          have HMV : Hid (Qr k0 k1 bm bw cw bs cs M.g M.ctrl M.slots M.cnt ((layAt M ii what (key, v)).tmb : Int) V) := hid (by
            have h1 := HCN.out.2.1
            have h2 := HMR.out
            rw [hV, show ((layAt M ii what (key, v)).tmb) = M.tmb from by simpa using h1]
            exact h2)
          have HKV : Hid (Kp (fun k => k ≠ bm ∧ k ≠ bw ∧ k ≠ bs) w V) := hid (by rw [hV]; exact HKW.out.all)
          clear hV cm hwd
          have cv := blk_cell HMV.out.str
          rw [HGG.out] at cv
          have fv := blk_free HMV.out.str
          have hwd := HMV.out.word (by have := HP.out.len; omega) hqg
          rw [HWQ.out] at hwd
          obtain ⟨cur, hcur⟩ : ∃ cur, V.heap[bw]? = some (.cells cur 22 (0, 0)) := by obtain ⟨c, e, _⟩ := HMV.out.wds; exact ⟨c, e⟩
          have fw := blk_free hcur
          obtain ⟨cur2, hcur2, hcz⟩ : ∃ cur2, V.heap[bs]? = some (.cells cur2 75 (0, 0)) ∧ cur2.size = cs * 2 := by obtain ⟨c, e, e2, _⟩ := HMV.out.sls; exact ⟨c, e, e2⟩
          have fs := blk_free hcur2
          have hcsl := HMV.out.csl
          obtain ⟨u1, fc1⟩ : ∃ u, V.cell? ⟨bs, ii * 2, none⟩ = some u := ⟨_, by rw [blk_cell hcur2]; exact Array.getElem?_eq_getElem (by omega)⟩
          obtain ⟨u2, fc2⟩ : ∃ u, V.cell? ⟨bs, ii * 2 + 1, none⟩ = some u := ⟨_, by rw [blk_cell hcur2]; exact Array.getElem?_eq_getElem (by omega)⟩
          have e1 : ¬ bm = bw := HMV.out.d1
          have e2 : ¬ bm = bs := HMV.out.d2
          have e3 : ¬ bw = bs := HMV.out.d3
          have e4 : ¬ bw = bm := Ne.symm e1
          have e5 : ¬ bs = bm := Ne.symm e2
          have e6 : ¬ bs = bw := Ne.symm e3
          clear hcur hcur2
          refine RegionLast.wp_region_end_quiet (by kernel_rfl) (by kernel_rfl) (by kernel_rfl) ?_; simp only [List.length_cons, List.length_nil, Nat.zero_add, Nat.reduceAdd, Nat.reduceSub, List.take_succ_cons, List.take_zero, List.drop_succ_cons, List.drop_zero]
          repeat (go_big_quiet_step ((go_at_call 43; refine (HSJ.out _).mono ?_; rintro e w8 ⟨rfl, rfl⟩; exact ⟨rfl, _, rfl⟩)))
          refine wpQuiet_nil ?_; intro _ hw'; obtain ⟨nq, hw''⟩ := hw'; subst hw''
          go_wp2_with fail
          refine bodyPost_ret (v := .tuple #[]) (by simp [results, Tryz.results39, go_sem]) rfl ⟨rfl, ?_, (((((HKV.out.drewN nq).setOut (by simp) _).setOut (by simp) _).setOut (by simp) _).setOut (by simp) _)⟩
          have h5 := (((HMV.out.all ((Kp.refl _ V).drewN nq)).setW (x := what) (by have := HP.out.len; omega) HJ8.out hqg).setS ii (key, v)).setN ((M.cnt : Int) + 1)
          rw [HJI.out] at h5
          show Qr k0 k1 bm bw cw bs cs (layAt M ii what (key, v)).g (layAt M ii what (key, v)).ctrl (layAt M ii what (key, v)).slots (layAt M ii what (key, v)).cnt (layAt M ii what (key, v)).tmb _
          rw [HCN.out.2.2, HCN.out.1]
          exact h5
        · have db : (((254 : Nat) : Int) == 254) = true := rfl
          have hp1 : 1 ≤ M.tmb := by have := HCN.out.2.1; simp at this; omega
          have htb : IntKind.i64.wrap ((M.tmb : Int) - 1) = (M.tmb : Int) - 1 := IntWalk.i64_in _ (by omega)
          have fbm := blk_free HMR.out.str
          go_wp2_with fail
          refine (HFR.out _).mono ?_
          rintro e w5 ⟨rfl, hw⟩
          have hw := hw.symm
          subst hw
          go_wp2_with fail
          refine (HFS.out _).mono ?_
          rintro e w6 ⟨rfl, hw⟩
          have hw := hw.symm
          subst hw
          go_wp2_with fail
          refine (HGJ.out _).mono ?_
          rintro e w7 ⟨rfl, hw⟩
          have hw := hw.symm
          subst hw
          go_wp2_with fail
          obtain ⟨V, hV⟩ : ∃ V, V = wr.setCell ⟨bm, 5, none⟩ (.int .i64 ((M.tmb : Int) - 1)) := ⟨_, rfl⟩
          rw [← hV]
          have HMV : Hid (Qr k0 k1 bm bw cw bs cs M.g M.ctrl M.slots M.cnt ((layAt M ii what (key, v)).tmb : Int) V) := hid (by
            have h1 := HCN.out.2.1
            have h2 := HMR.out.setT ((M.tmb : Int) - 1)
            simp only [if_true] at h1
            rw [hV, show ((layAt M ii what (key, v)).tmb : Int) = (M.tmb : Int) - 1 from by omega]
            exact h2)
          have HKV : Hid (Kp (fun k => k ≠ bm ∧ k ≠ bw ∧ k ≠ bs) w V) := hid (by rw [hV]; exact (HKW.out.all).setOut (by simp) _)
          clear hV cm hwd
          have cv := blk_cell HMV.out.str
          rw [HGG.out] at cv
          have fv := blk_free HMV.out.str
          have hwd := HMV.out.word (by have := HP.out.len; omega) hqg
          rw [HWQ.out] at hwd
          obtain ⟨cur, hcur⟩ : ∃ cur, V.heap[bw]? = some (.cells cur 22 (0, 0)) := by obtain ⟨c, e, _⟩ := HMV.out.wds; exact ⟨c, e⟩
          have fw := blk_free hcur
          obtain ⟨cur2, hcur2, hcz⟩ : ∃ cur2, V.heap[bs]? = some (.cells cur2 75 (0, 0)) ∧ cur2.size = cs * 2 := by obtain ⟨c, e, e2, _⟩ := HMV.out.sls; exact ⟨c, e, e2⟩
          have fs := blk_free hcur2
          have hcsl := HMV.out.csl
          obtain ⟨u1, fc1⟩ : ∃ u, V.cell? ⟨bs, ii * 2, none⟩ = some u := ⟨_, by rw [blk_cell hcur2]; exact Array.getElem?_eq_getElem (by omega)⟩
          obtain ⟨u2, fc2⟩ : ∃ u, V.cell? ⟨bs, ii * 2 + 1, none⟩ = some u := ⟨_, by rw [blk_cell hcur2]; exact Array.getElem?_eq_getElem (by omega)⟩
          have e1 : ¬ bm = bw := HMV.out.d1
          have e2 : ¬ bm = bs := HMV.out.d2
          have e3 : ¬ bw = bs := HMV.out.d3
          have e4 : ¬ bw = bm := Ne.symm e1
          have e5 : ¬ bs = bm := Ne.symm e2
          have e6 : ¬ bs = bw := Ne.symm e3
          clear hcur hcur2
          refine RegionLast.wp_region_end_quiet (by kernel_rfl) (by kernel_rfl) (by kernel_rfl) ?_; simp only [List.length_cons, List.length_nil, Nat.zero_add, Nat.reduceAdd, Nat.reduceSub, List.take_succ_cons, List.take_zero, List.drop_succ_cons, List.drop_zero]
          repeat (go_big_quiet_step ((go_at_call 43; refine (HSJ.out _).mono ?_; rintro e w8 ⟨rfl, rfl⟩; exact ⟨rfl, _, rfl⟩)))
          refine wpQuiet_nil ?_; intro _ hw'; obtain ⟨nq, hw''⟩ := hw'; subst hw''
          go_wp2_with fail
          refine bodyPost_ret (v := .tuple #[]) (by simp [results, Tryz.results39, go_sem]) rfl ⟨rfl, ?_, (((((HKV.out.drewN nq).setOut (by simp) _).setOut (by simp) _).setOut (by simp) _).setOut (by simp) _)⟩
          have h5 := (((HMV.out.all ((Kp.refl _ V).drewN nq)).setW (x := what) (by have := HP.out.len; omega) HJ8.out hqg).setS ii (key, v)).setN ((M.cnt : Int) + 1)
          rw [HJI.out] at h5
          show Qr k0 k1 bm bw cw bs cs (layAt M ii what (key, v)).g (layAt M ii what (key, v)).ctrl (layAt M ii what (key, v)).slots (layAt M ii what (key, v)).cnt (layAt M ii what (key, v)).tmb _
          rw [HCN.out.2.2, HCN.out.1]
          exact h5
    · exfalso
      have hr := hT.out
      rw [List.drop_of_length_le (by simp [seqP]; omega)] at hr
      cases hr
end Go.Proofs.YtodledidabdkaaaGreatDoor

namespace Go.Proofs.YtodledidabdkaaaGreatDoor
open Go.RowKit Go.Shelf V
set_option linter.unusedVariables false
set_option linter.unusedSimpArgs false
/-- the pairs of the first slots -/
def preF (M : Mp) (i : Nat) : List Slot := (List.range i).filterMap fun i => if M.ctrl.getD i 128 < 128 then M.slots[i]? else none
theorem preF_succ (M : Mp) (i : Nat) : preF M (i + 1) = preF M i ++ (if M.ctrl.getD i 128 < 128 then M.slots[i]? else none).toList := by
  unfold preF
  rw [List.range_succ, List.filterMap_append]
  congr 1
theorem preF_pre (M : Mp) {i n : Nat} (h : i ≤ n) : ∃ r, preF M n = preF M i ++ r := by
  induction n with
  | zero => exact ⟨[], by rw [show i = 0 from by omega]; simp⟩
  | succ n ih =>
    rcases Nat.lt_or_ge n i with h' | h'
    · exact ⟨[], by rw [show i = n + 1 from by omega]; simp⟩
    · obtain ⟨r, e⟩ := ih h'
      exact ⟨r ++ (if M.ctrl.getD n 128 < 128 then M.slots[n]? else none).toList, by rw [preF_succ, e, List.append_assoc]⟩
theorem preF_full (M : Mp) : preF M M.ctrl.length = fullP M := rfl
theorem preF_le (M : Mp) {i : Nat} (h : i ≤ M.ctrl.length) : (preF M i).length ≤ (fullP M).length := by
  obtain ⟨r, e⟩ := preF_pre M h
  rw [← preF_full, e, List.length_append]; omega
theorem preF_at (M : Mp) {i b : Nat} {s : Slot} (h : i < M.ctrl.length) (hb : M.ctrl[i]? = some b) (hb2 : b < 128) (hs : M.slots[i]? = some s) : (fullP M)[(preF M i).length]? = some s ∧ (preF M (i + 1)).length = (preF M i).length + 1 := by
  have e1 : preF M (i + 1) = preF M i ++ [s] := by rw [preF_succ, getD_of hb, if_pos hb2, hs]; rfl
  obtain ⟨r, e⟩ := preF_pre M (show i + 1 ≤ M.ctrl.length by omega)
  rw [← preF_full, e, e1]
  exact ⟨by simp, by simp⟩
theorem preF_no (M : Mp) {i b : Nat} (hb : M.ctrl[i]? = some b) (hb2 : ¬ b < 128) : (preF M (i + 1)).length = (preF M i).length := by
  rw [preF_succ, getD_of hb, if_neg hb2]; simp
/-- the struct copied -/
theorem Qr.copy {k0 k1 bm bx bw cw bs cs g : Nat} {c : List Nat} {l : List Slot} {n t : Int} {w : World} {o0 o1 o2 o3 o4 o5 : Value} (h : Qr k0 k1 bx bw cw bs cs g c l n t w) (hb : w.heap[bm]? = some (.cells #[o0, o1, o2, o3, o4, o5] 63 (0, 0))) (d1 : bm ≠ bw) (d2 : bm ≠ bs) :
    Qr k0 k1 bm bw cw bs cs g c l n t ((((((w.setCell ⟨bm, 0, none⟩ (.int .u64 k0)).setCell ⟨bm, 1, none⟩ (.int .u64 k1)).setCell ⟨bm, 2, none⟩ (.slice (some ⟨bw, 0, none⟩) g cw)).setCell ⟨bm, 3, none⟩ (.slice (some ⟨bs, 0, none⟩) (8 * g) cs)).setCell ⟨bm, 4, none⟩ (.int .i64 n)).setCell ⟨bm, 5, none⟩ (.int .i64 t)) := by
  obtain ⟨c1, e1, e2, e3⟩ := h.wds
  obtain ⟨c2, f1, f2, f3⟩ := h.sls
  have hs := blk_set (blk_set (blk_set (blk_set (blk_set (blk_set hb 0 (.int .u64 k0)) 1 (.int .u64 k1)) 2 (.slice (some ⟨bw, 0, none⟩) g cw)) 3 (.slice (some ⟨bs, 0, none⟩) (8 * g) cs)) 4 (.int .i64 n)) 5 (.int .i64 t)
  have far : ∀ {b : Nat} {o : Obj}, w.heap[b]? = some o → b ≠ bm → ((((((w.setCell ⟨bm, 0, none⟩ (.int .u64 k0)).setCell ⟨bm, 1, none⟩ (.int .u64 k1)).setCell ⟨bm, 2, none⟩ (.slice (some ⟨bw, 0, none⟩) g cw)).setCell ⟨bm, 3, none⟩ (.slice (some ⟨bs, 0, none⟩) (8 * g) cs)).setCell ⟨bm, 4, none⟩ (.int .i64 n)).setCell ⟨bm, 5, none⟩ (.int .i64 t)).heap[b]? = some o := fun h hne => blk_far (blk_far (blk_far (blk_far (blk_far (blk_far h hne _) hne _) hne _) hne _) hne _) hne _
  exact ⟨hs, ⟨c1, far e1 (Ne.symm d1), e2, e3⟩, ⟨c2, far f1 (Ne.symm d2), f2, f3⟩, h.cwl, h.csl, h.cwm, h.csm, d1, d2, h.d3⟩
/-- The document's map lies anew, its struct in the same block. -/
def AnewQ (k0 k1 bm : Nat) (M : Mp) (w : World) (w' : World) : Prop := ∃ bw cw bs cs, Qs k0 k1 bm bw cw bs cs M w' ∧ (∀ b, b < w.heap.size → b ≠ bm → b ≠ bw ∧ b ≠ bs) ∧ Kp (fun b => b ≠ bm) w w'
set_option maxRecDepth 100000 in
set_option maxHeartbeats 4000000 in
theorem r5rehash_any (k0 k1 bm bw cw bs cs : Nat) (M : Mp) (h0 : k0 < 18446744073709551616) (h1 : k1 < 18446744073709551616) (hI : Inv (sipP k0 k1) M) (hfull : 7 * M.g ≤ M.cnt + M.tmb) (hm : M.cnt < 2000) (hkeys : ∀ s ∈ fullP M, s.1.size ≤ 9000000000000000000) (w : World) (h : Qs k0 k1 bm bw cw bs cs M w) :
    Calls Tryz.prog 38 #[.pointer (some ⟨bm, 0, none⟩)] w fun e w' => e = .returned (.tuple #[]) ∧ AnewQ k0 k1 bm (rehashP (sipP k0 k1) M) w w' := by
  have HM := hid h; have HI := hid hI; have HKY := hid hkeys
  have hP := hI.pm
  have HP := hid hP
  have hg1 := hP.g1
  have g1 := hg1.1; have g2 := hg1.2
  have c0 := blk_cell h.str
  have hng := newG_pow hI hfull hm
  have HLI := hid (layN_inv hI hfull hm)
  have HFL := hid (full_len hI.slen)
  have htb : M.tmb ≤ 100000 := by have := hI.room; omega
  obtain ⟨G, hG⟩ : ∃ G, newG M = G := ⟨_, rfl⟩
  rw [hG] at hng HLI
  have HAL := hid (layN_all (sipP k0 k1) M)
  rw [hG] at HAL
  have hG1 : 1 ≤ G ∧ G ≤ 1024 := by
    obtain ⟨⟨k, hk, e⟩, _⟩ := hng
    obtain ⟨p1, p2, _⟩ := pow_good ⟨k, by omega⟩
    simp only [← e] at p1 p2
    exact ⟨p1, p2⟩
  have hcase : (M.tmb = 0 ∧ M.g * 2 = G) ∨ (M.tmb ≠ 0 ∧ 7 * M.g < 2 * M.cnt ∧ M.g * 2 = G) ∨ (M.tmb ≠ 0 ∧ ¬ 7 * M.g < 2 * M.cnt ∧ M.g = G) := by
    unfold newG at hG
    by_cases a : M.tmb = 0
    · rw [if_pos (.inl a)] at hG; exact .inl ⟨a, hG⟩
    · by_cases b : 7 * M.g < 2 * M.cnt
      · rw [if_pos (.inr b)] at hG; exact .inr (.inl ⟨a, b, hG⟩)
      · rw [if_neg (fun x => x.elim a b)] at hG; exact .inr (.inr ⟨a, b, hG⟩)
  have HMADE := hid (fun w => r5made_any k0 k1 G hG1.1 hG1.2 w)
  have HCL := hid hP.len
  have hzm : bm < w.heap.size := blk_lt h.str
  have hw2c : IntKind.i64.wrap (2 * (M.cnt : Int)) = 2 * (M.cnt : Int) := IntWalk.i64_in _ (by omega)
  have hw7g : IntKind.i64.wrap (7 * (M.g : Int)) = 7 * (M.g : Int) := IntWalk.i64_in _ (by omega)
  have hw2g : IntKind.i64.wrap ((M.g : Int) * 2) = (M.g : Int) * 2 := IntWalk.i64_in _ (by omega)
  clear h hI hkeys hng hG hfull
  rcases hcase with ⟨a, hGe⟩ | ⟨a, b, hGe⟩ | ⟨a, b, hGe⟩
  · have d1 : ((M.tmb : Int) == 0) = true := by rw [a]; rfl
    have hGI : (M.g : Int) * 2 = (G : Int) := by omega
    clear hGe
    go_enter Tryz.func38, Tryz.ntmps38
    go_wp2_with fail
    go_region_held3 (fun w' => ∀ i, w'.cell? ⟨bm, i, none⟩ = (#[.int .u64 k0, .int .u64 k1, .slice (some ⟨bw, 0, none⟩) M.g cw, .slice (some ⟨bs, 0, none⟩) (8 * M.g) cs, .int .i64 M.cnt, .int .i64 M.tmb] : Array Value)[i]?) (first | assumption | exact blk_cell (KA.out.heap HM.out.str trivial)) (first | (go_at_call 30; refine (HMADE.out _).mono ?_; rintro e w2 ⟨bx, bw', cw', bs', cs', rfl, z1, z2, z3, hX, hK1⟩; have HX2 := hid hX; have KA := hid (show Kp All w w2 from by first | exact hK1 | exact (Kp.refl All w).drew.trans hK1); have z1 : w.heap.size ≤ bx := z1; have z2 : w.heap.size ≤ bw' := z2; have z3 : w.heap.size ≤ bs' := z3; clear hX hK1))
    have cm := blk_cell (KA.out.heap HM.out.str trivial)
    have zx1 : bx < w2.heap.size := blk_lt HX2.out.str
    have zw : bw' < w2.heap.size := by obtain ⟨_, e, _⟩ := HX2.out.wds; exact blk_lt e
    have zs : bs' < w2.heap.size := by obtain ⟨_, e, _⟩ := HX2.out.sls; exact blk_lt e
    have zbw : bw < w.heap.size := by obtain ⟨_, e, _⟩ := HM.out.wds; exact blk_lt e
    have zbs : bs < w.heap.size := by obtain ⟨_, e, _⟩ := HM.out.sls; exact blk_lt e
    clear c0
    go_wp2_with fail
    go_loopw [43] (fun i wr => ∃ j : Nat, j ≤ 8 * M.g ∧ i = .int .i64 j ∧ Hid (Qs k0 k1 bx bw' cw' bs' cs' (layN (sipP k0 k1) (madeP G) (fullP M) (preF M j).length) wr) ∧ Hid (Kp (fun b => b ≠ bx ∧ b ≠ bw' ∧ b ≠ bs') w2 wr)) (fun i _ => 8 * M.g - (ivl i).toNat)
    case atStart => exact ⟨0, Nat.zero_le _, rfl, HX2, hid (Kp.refl _ _)⟩
    case round =>
      obtain ⟨j, hj, rfl, hX, hK⟩ := hrel
      have hMw : Qs k0 k1 bm bw cw bs cs M wr := (HM.out.all KA.out).kept hK.out ⟨by omega, by omega, by omega⟩ ⟨by omega, by omega, by omega⟩ ⟨by omega, by omega, by omega⟩
      by_cases hlt : j < 8 * M.g
      · have d9 : decide ((j : Int) < 8 * (M.g : Int)) = true := decide_eq_true (by omega)
        have cmw := blk_cell hMw.str
        obtain ⟨r1, r2⟩ := hMw.slot HP.out.slen hlt
        obtain ⟨s, hs⟩ : ∃ s, M.slots[j]? = some s := ⟨_, List.getElem?_eq_getElem (by rw [HP.out.slen]; exact hlt)⟩
        rw [getD_of hs] at r1 r2
        obtain ⟨bb, hbb⟩ : ∃ bb, M.ctrl[j]? = some bb := ⟨_, List.getElem?_eq_getElem (by rw [HCL.out]; exact hlt)⟩
        obtain ⟨q, hq⟩ : ∃ q, q = j / 8 := ⟨_, rfl⟩
        have hqg : q < M.g := by omega
        have hwd := hMw.word (by have := HCL.out; omega) hqg
        have HG3 := hid (fun w => r3get_any (grp M.ctrl q) (HP.out.gb q) (HP.out.g8 hqg) j (by omega) w)
        have hgd : (grp M.ctrl q).getD (j % 8) 0 = bb := getD_of (by rw [grp_get (by omega), show 8 * q + j % 8 = j from by omega]; exact hbb)
        rw [hgd] at HG3
        have hquo : Int.tdiv (j : Int) 8 = (q : Int) := by rw [hq]; rfl
        generalize wd (grp M.ctrl q) = wq at *
        have hbl := blk_lt hMw.str
        have hbw2 : bw < wr.heap.size := by obtain ⟨_, e, _⟩ := hMw.wds; exact blk_lt e
        have hbs2 : bs < wr.heap.size := by obtain ⟨_, e, _⟩ := hMw.sls; exact blk_lt e
        have q0 : (0 : Int) ≤ (j : Int) := by omega
        have q1 : (j : Int) < 8 * (M.g : Int) := by omega
        have p0 : (0 : Int) ≤ (q : Int) := by omega
        have p1 : (q : Int) < (M.g : Int) := by omega
        have HBB := hid hbb; have HSS := hid hs
        have hjl : j < M.ctrl.length := by rw [HCL.out]; exact hlt
        have hpl := preF_le M (Nat.le_of_lt hjl)
        have hjw : IntKind.i64.wrap ((j : Int) + 1) = (j : Int) + 1 := IntWalk.i64_in _ (by omega)
        obtain ⟨s1, s2⟩ := s
        simp only at r1 r2
        clear hq hgd hbb hs hMw
        by_cases hb2 : bb < 128
        · have db : decide ((bb : Int) < 128) = true := decide_eq_true (by omega)
          obtain ⟨hat, hsuc⟩ := preF_at M hjl HBB.out hb2 HSS.out
          obtain ⟨i1, i2, i3⟩ := HLI.out (preF M j).length hpl
          have hnext := layN_succ (H := sipP k0 k1) (M := madeP G) hat
          have hsk := HKY.out (s1, s2) (List.mem_of_getElem? hat)
          simp only at hsk
          have hfr : layL (layN (sipP k0 k1) (madeP G) (fullP M) (preF M j).length).ctrl (seqP (sipP k0 k1 s1 / 128) (layN (sipP k0 k1) (madeP G) (fullP M) (preF M j).length).g) ≠ none := by
            obtain ⟨_, _, _, _, _, _, _, _, e, _⟩ := lay_at i1 (s1, s2)
            rw [e]
            simp
          have hroom := i1.room
          have hgp := i1.pm.g1
          have HLAY := hid (fun W hm => r5lay_any k0 k1 bx bw' cw' bs' cs' (layN (sipP k0 k1) (madeP G) (fullP M) (preF M j).length) i1.pm i1.bytes ⟨by omega, by omega⟩ h0 h1 s1 s2 hsk hfr W hm)
          rw [← hnext, ← hsuc] at HLAY
          clear hfr hnext i1 i2 i3 hat hsuc hpl hjl
          go_wp2_with fail
          refine (HG3.out _).mono ?_
          rintro e w4 ⟨rfl, hw⟩
          have hw := hw.symm
          subst hw
          go_wp2_with fail
          refine (HLAY.out _ (hX.out.all (Kp.al _ _))).mono ?_
          rintro e w5 ⟨rfl, hM5, hK5⟩
          have HM5 := hid hM5
          have HK5 := hid (hK.out.trans ((Kp.al _ _).all.trans hK5))
          clear hM5 hK5
          go_wp2_with fail
          exact ⟨⟨j + 1, by omega, by go_num, HM5, HK5⟩, by simp [ivl]; omega⟩
        · have db : decide ((bb : Int) < 128) = false := decide_eq_false (by omega)
          have hno := preF_no M HBB.out hb2
          have HNO : Hid (Qs k0 k1 bx bw' cw' bs' cs' (layN (sipP k0 k1) (madeP G) (fullP M) (preF M (j + 1)).length) wr) := hid (by rw [hno]; exact hX.out)
          clear hno hpl hjl
          go_wp2_with fail
          refine (HG3.out _).mono ?_
          rintro e w4 ⟨rfl, hw⟩
          have hw := hw.symm
          subst hw
          go_wp2_with fail
          exact ⟨⟨j + 1, by omega, by go_num, hid (HNO.out.all (Kp.al _ _)), hid (hK.out.alloc _)⟩, by simp [ivl]; omega⟩
      · have d9 : decide ((j : Int) < 8 * (M.g : Int)) = false := decide_eq_false (by omega)
        have hjn : j = M.ctrl.length := by rw [HCL.out]; omega
        have hX2 := hX.out
        rw [hjn, preF_full, HAL.out] at hX2
        have cx := blk_cell hX2.str
        have cm2 := blk_cell hMw.str
        have fm2 := blk_free hMw.str
        have HBM := hid hMw.str; have HX3 := hid hX2
        clear hjn hMw hX2 cm
        go_wp2_with fail
        go_end0
        have hk : Kp (fun b => b ≠ bm) w wr := KA.out.then hK.out (fun i hi _ => ⟨by omega, by omega, by omega⟩) |>.all
        exact ⟨rfl, bw', cw', bs', cs', HX3.out.copy HBM.out (by omega) (by omega), fun b hb _ => ⟨by omega, by omega⟩, (((((hk.setOut (by simp) _).setOut (by simp) _).setOut (by simp) _).setOut (by simp) _).setOut (by simp) _).setOut (by simp) _⟩
  · have d1 : ((M.tmb : Int) == 0) = false := by simp; omega
    have d2 : decide (7 * (M.g : Int) < 2 * (M.cnt : Int)) = true := decide_eq_true (by omega)
    have hGI : (M.g : Int) * 2 = (G : Int) := by omega
    clear hGe
    go_enter Tryz.func38, Tryz.ntmps38
    go_wp2_with fail
    go_region_held3 (fun w' => ∀ i, w'.cell? ⟨bm, i, none⟩ = (#[.int .u64 k0, .int .u64 k1, .slice (some ⟨bw, 0, none⟩) M.g cw, .slice (some ⟨bs, 0, none⟩) (8 * M.g) cs, .int .i64 M.cnt, .int .i64 M.tmb] : Array Value)[i]?) (first | assumption | exact blk_cell (KA.out.heap HM.out.str trivial)) (first | (go_at_call 30; refine (HMADE.out _).mono ?_; rintro e w2 ⟨bx, bw', cw', bs', cs', rfl, z1, z2, z3, hX, hK1⟩; have HX2 := hid hX; have KA := hid (show Kp All w w2 from by first | exact hK1 | exact (Kp.refl All w).drew.trans hK1); have z1 : w.heap.size ≤ bx := z1; have z2 : w.heap.size ≤ bw' := z2; have z3 : w.heap.size ≤ bs' := z3; clear hX hK1))
    have cm := blk_cell (KA.out.heap HM.out.str trivial)
    have zx1 : bx < w2.heap.size := blk_lt HX2.out.str
    have zw : bw' < w2.heap.size := by obtain ⟨_, e, _⟩ := HX2.out.wds; exact blk_lt e
    have zs : bs' < w2.heap.size := by obtain ⟨_, e, _⟩ := HX2.out.sls; exact blk_lt e
    have zbw : bw < w.heap.size := by obtain ⟨_, e, _⟩ := HM.out.wds; exact blk_lt e
    have zbs : bs < w.heap.size := by obtain ⟨_, e, _⟩ := HM.out.sls; exact blk_lt e
    clear c0
    go_wp2_with fail
    go_loopw [43] (fun i wr => ∃ j : Nat, j ≤ 8 * M.g ∧ i = .int .i64 j ∧ Hid (Qs k0 k1 bx bw' cw' bs' cs' (layN (sipP k0 k1) (madeP G) (fullP M) (preF M j).length) wr) ∧ Hid (Kp (fun b => b ≠ bx ∧ b ≠ bw' ∧ b ≠ bs') w2 wr)) (fun i _ => 8 * M.g - (ivl i).toNat)
    case atStart => exact ⟨0, Nat.zero_le _, rfl, HX2, hid (Kp.refl _ _)⟩
    case round =>
      obtain ⟨j, hj, rfl, hX, hK⟩ := hrel
      have hMw : Qs k0 k1 bm bw cw bs cs M wr := (HM.out.all KA.out).kept hK.out ⟨by omega, by omega, by omega⟩ ⟨by omega, by omega, by omega⟩ ⟨by omega, by omega, by omega⟩
      by_cases hlt : j < 8 * M.g
      · have d9 : decide ((j : Int) < 8 * (M.g : Int)) = true := decide_eq_true (by omega)
        have cmw := blk_cell hMw.str
        obtain ⟨r1, r2⟩ := hMw.slot HP.out.slen hlt
        obtain ⟨s, hs⟩ : ∃ s, M.slots[j]? = some s := ⟨_, List.getElem?_eq_getElem (by rw [HP.out.slen]; exact hlt)⟩
        rw [getD_of hs] at r1 r2
        obtain ⟨bb, hbb⟩ : ∃ bb, M.ctrl[j]? = some bb := ⟨_, List.getElem?_eq_getElem (by rw [HCL.out]; exact hlt)⟩
        obtain ⟨q, hq⟩ : ∃ q, q = j / 8 := ⟨_, rfl⟩
        have hqg : q < M.g := by omega
        have hwd := hMw.word (by have := HCL.out; omega) hqg
        have HG3 := hid (fun w => r3get_any (grp M.ctrl q) (HP.out.gb q) (HP.out.g8 hqg) j (by omega) w)
        have hgd : (grp M.ctrl q).getD (j % 8) 0 = bb := getD_of (by rw [grp_get (by omega), show 8 * q + j % 8 = j from by omega]; exact hbb)
        rw [hgd] at HG3
        have hquo : Int.tdiv (j : Int) 8 = (q : Int) := by rw [hq]; rfl
        generalize wd (grp M.ctrl q) = wq at *
        have hbl := blk_lt hMw.str
        have hbw2 : bw < wr.heap.size := by obtain ⟨_, e, _⟩ := hMw.wds; exact blk_lt e
        have hbs2 : bs < wr.heap.size := by obtain ⟨_, e, _⟩ := hMw.sls; exact blk_lt e
        have q0 : (0 : Int) ≤ (j : Int) := by omega
        have q1 : (j : Int) < 8 * (M.g : Int) := by omega
        have p0 : (0 : Int) ≤ (q : Int) := by omega
        have p1 : (q : Int) < (M.g : Int) := by omega
        have HBB := hid hbb; have HSS := hid hs
        have hjl : j < M.ctrl.length := by rw [HCL.out]; exact hlt
        have hpl := preF_le M (Nat.le_of_lt hjl)
        have hjw : IntKind.i64.wrap ((j : Int) + 1) = (j : Int) + 1 := IntWalk.i64_in _ (by omega)
        obtain ⟨s1, s2⟩ := s
        simp only at r1 r2
        clear hq hgd hbb hs hMw
        by_cases hb2 : bb < 128
        · have db : decide ((bb : Int) < 128) = true := decide_eq_true (by omega)
          obtain ⟨hat, hsuc⟩ := preF_at M hjl HBB.out hb2 HSS.out
          obtain ⟨i1, i2, i3⟩ := HLI.out (preF M j).length hpl
          have hnext := layN_succ (H := sipP k0 k1) (M := madeP G) hat
          have hsk := HKY.out (s1, s2) (List.mem_of_getElem? hat)
          simp only at hsk
          have hfr : layL (layN (sipP k0 k1) (madeP G) (fullP M) (preF M j).length).ctrl (seqP (sipP k0 k1 s1 / 128) (layN (sipP k0 k1) (madeP G) (fullP M) (preF M j).length).g) ≠ none := by
            obtain ⟨_, _, _, _, _, _, _, _, e, _⟩ := lay_at i1 (s1, s2)
            rw [e]
            simp
          have hroom := i1.room
          have hgp := i1.pm.g1
          have HLAY := hid (fun W hm => r5lay_any k0 k1 bx bw' cw' bs' cs' (layN (sipP k0 k1) (madeP G) (fullP M) (preF M j).length) i1.pm i1.bytes ⟨by omega, by omega⟩ h0 h1 s1 s2 hsk hfr W hm)
          rw [← hnext, ← hsuc] at HLAY
          clear hfr hnext i1 i2 i3 hat hsuc hpl hjl
          go_wp2_with fail
          refine (HG3.out _).mono ?_
          rintro e w4 ⟨rfl, hw⟩
          have hw := hw.symm
          subst hw
          go_wp2_with fail
          refine (HLAY.out _ (hX.out.all (Kp.al _ _))).mono ?_
          rintro e w5 ⟨rfl, hM5, hK5⟩
          have HM5 := hid hM5
          have HK5 := hid (hK.out.trans ((Kp.al _ _).all.trans hK5))
          clear hM5 hK5
          go_wp2_with fail
          exact ⟨⟨j + 1, by omega, by go_num, HM5, HK5⟩, by simp [ivl]; omega⟩
        · have db : decide ((bb : Int) < 128) = false := decide_eq_false (by omega)
          have hno := preF_no M HBB.out hb2
          have HNO : Hid (Qs k0 k1 bx bw' cw' bs' cs' (layN (sipP k0 k1) (madeP G) (fullP M) (preF M (j + 1)).length) wr) := hid (by rw [hno]; exact hX.out)
          clear hno hpl hjl
          go_wp2_with fail
          refine (HG3.out _).mono ?_
          rintro e w4 ⟨rfl, hw⟩
          have hw := hw.symm
          subst hw
          go_wp2_with fail
          exact ⟨⟨j + 1, by omega, by go_num, hid (HNO.out.all (Kp.al _ _)), hid (hK.out.alloc _)⟩, by simp [ivl]; omega⟩
      · have d9 : decide ((j : Int) < 8 * (M.g : Int)) = false := decide_eq_false (by omega)
        have hjn : j = M.ctrl.length := by rw [HCL.out]; omega
        have hX2 := hX.out
        rw [hjn, preF_full, HAL.out] at hX2
        have cx := blk_cell hX2.str
        have cm2 := blk_cell hMw.str
        have fm2 := blk_free hMw.str
        have HBM := hid hMw.str; have HX3 := hid hX2
        clear hjn hMw hX2 cm
        go_wp2_with fail
        go_end0
        have hk : Kp (fun b => b ≠ bm) w wr := KA.out.then hK.out (fun i hi _ => ⟨by omega, by omega, by omega⟩) |>.all
        exact ⟨rfl, bw', cw', bs', cs', HX3.out.copy HBM.out (by omega) (by omega), fun b hb _ => ⟨by omega, by omega⟩, (((((hk.setOut (by simp) _).setOut (by simp) _).setOut (by simp) _).setOut (by simp) _).setOut (by simp) _).setOut (by simp) _⟩
  · have d1 : ((M.tmb : Int) == 0) = false := by simp; omega
    have d2 : decide (7 * (M.g : Int) < 2 * (M.cnt : Int)) = false := decide_eq_false (by omega)
    subst hGe
    go_enter Tryz.func38, Tryz.ntmps38
    go_wp2_with fail
    go_region_held3 (fun w' => ∀ i, w'.cell? ⟨bm, i, none⟩ = (#[.int .u64 k0, .int .u64 k1, .slice (some ⟨bw, 0, none⟩) M.g cw, .slice (some ⟨bs, 0, none⟩) (8 * M.g) cs, .int .i64 M.cnt, .int .i64 M.tmb] : Array Value)[i]?) (first | assumption | exact blk_cell (KA.out.heap HM.out.str trivial)) (first | (go_at_call 30; refine (HMADE.out _).mono ?_; rintro e w2 ⟨bx, bw', cw', bs', cs', rfl, z1, z2, z3, hX, hK1⟩; have HX2 := hid hX; have KA := hid (show Kp All w w2 from by first | exact hK1 | exact (Kp.refl All w).drew.trans hK1); have z1 : w.heap.size ≤ bx := z1; have z2 : w.heap.size ≤ bw' := z2; have z3 : w.heap.size ≤ bs' := z3; clear hX hK1))
    have cm := blk_cell (KA.out.heap HM.out.str trivial)
    have zx1 : bx < w2.heap.size := blk_lt HX2.out.str
    have zw : bw' < w2.heap.size := by obtain ⟨_, e, _⟩ := HX2.out.wds; exact blk_lt e
    have zs : bs' < w2.heap.size := by obtain ⟨_, e, _⟩ := HX2.out.sls; exact blk_lt e
    have zbw : bw < w.heap.size := by obtain ⟨_, e, _⟩ := HM.out.wds; exact blk_lt e
    have zbs : bs < w.heap.size := by obtain ⟨_, e, _⟩ := HM.out.sls; exact blk_lt e
    clear c0
    go_wp2_with fail
    go_loopw [43] (fun i wr => ∃ j : Nat, j ≤ 8 * M.g ∧ i = .int .i64 j ∧ Hid (Qs k0 k1 bx bw' cw' bs' cs' (layN (sipP k0 k1) (madeP M.g) (fullP M) (preF M j).length) wr) ∧ Hid (Kp (fun b => b ≠ bx ∧ b ≠ bw' ∧ b ≠ bs') w2 wr)) (fun i _ => 8 * M.g - (ivl i).toNat)
    case atStart => exact ⟨0, Nat.zero_le _, rfl, HX2, hid (Kp.refl _ _)⟩
    case round =>
      obtain ⟨j, hj, rfl, hX, hK⟩ := hrel
      have hMw : Qs k0 k1 bm bw cw bs cs M wr := (HM.out.all KA.out).kept hK.out ⟨by omega, by omega, by omega⟩ ⟨by omega, by omega, by omega⟩ ⟨by omega, by omega, by omega⟩
      by_cases hlt : j < 8 * M.g
      · have d9 : decide ((j : Int) < 8 * (M.g : Int)) = true := decide_eq_true (by omega)
        have cmw := blk_cell hMw.str
        obtain ⟨r1, r2⟩ := hMw.slot HP.out.slen hlt
        obtain ⟨s, hs⟩ : ∃ s, M.slots[j]? = some s := ⟨_, List.getElem?_eq_getElem (by rw [HP.out.slen]; exact hlt)⟩
        rw [getD_of hs] at r1 r2
        obtain ⟨bb, hbb⟩ : ∃ bb, M.ctrl[j]? = some bb := ⟨_, List.getElem?_eq_getElem (by rw [HCL.out]; exact hlt)⟩
        obtain ⟨q, hq⟩ : ∃ q, q = j / 8 := ⟨_, rfl⟩
        have hqg : q < M.g := by omega
        have hwd := hMw.word (by have := HCL.out; omega) hqg
        have HG3 := hid (fun w => r3get_any (grp M.ctrl q) (HP.out.gb q) (HP.out.g8 hqg) j (by omega) w)
        have hgd : (grp M.ctrl q).getD (j % 8) 0 = bb := getD_of (by rw [grp_get (by omega), show 8 * q + j % 8 = j from by omega]; exact hbb)
        rw [hgd] at HG3
        have hquo : Int.tdiv (j : Int) 8 = (q : Int) := by rw [hq]; rfl
        generalize wd (grp M.ctrl q) = wq at *
        have hbl := blk_lt hMw.str
        have hbw2 : bw < wr.heap.size := by obtain ⟨_, e, _⟩ := hMw.wds; exact blk_lt e
        have hbs2 : bs < wr.heap.size := by obtain ⟨_, e, _⟩ := hMw.sls; exact blk_lt e
        have q0 : (0 : Int) ≤ (j : Int) := by omega
        have q1 : (j : Int) < 8 * (M.g : Int) := by omega
        have p0 : (0 : Int) ≤ (q : Int) := by omega
        have p1 : (q : Int) < (M.g : Int) := by omega
        have HBB := hid hbb; have HSS := hid hs
        have hjl : j < M.ctrl.length := by rw [HCL.out]; exact hlt
        have hpl := preF_le M (Nat.le_of_lt hjl)
        have hjw : IntKind.i64.wrap ((j : Int) + 1) = (j : Int) + 1 := IntWalk.i64_in _ (by omega)
        obtain ⟨s1, s2⟩ := s
        simp only at r1 r2
        clear hq hgd hbb hs hMw
        by_cases hb2 : bb < 128
        · have db : decide ((bb : Int) < 128) = true := decide_eq_true (by omega)
          obtain ⟨hat, hsuc⟩ := preF_at M hjl HBB.out hb2 HSS.out
          obtain ⟨i1, i2, i3⟩ := HLI.out (preF M j).length hpl
          have hnext := layN_succ (H := sipP k0 k1) (M := madeP M.g) hat
          have hsk := HKY.out (s1, s2) (List.mem_of_getElem? hat)
          simp only at hsk
          have hfr : layL (layN (sipP k0 k1) (madeP M.g) (fullP M) (preF M j).length).ctrl (seqP (sipP k0 k1 s1 / 128) (layN (sipP k0 k1) (madeP M.g) (fullP M) (preF M j).length).g) ≠ none := by
            obtain ⟨_, _, _, _, _, _, _, _, e, _⟩ := lay_at i1 (s1, s2)
            rw [e]
            simp
          have hroom := i1.room
          have hgp := i1.pm.g1
          have HLAY := hid (fun W hm => r5lay_any k0 k1 bx bw' cw' bs' cs' (layN (sipP k0 k1) (madeP M.g) (fullP M) (preF M j).length) i1.pm i1.bytes ⟨by omega, by omega⟩ h0 h1 s1 s2 hsk hfr W hm)
          rw [← hnext, ← hsuc] at HLAY
          clear hfr hnext i1 i2 i3 hat hsuc hpl hjl
          go_wp2_with fail
          refine (HG3.out _).mono ?_
          rintro e w4 ⟨rfl, hw⟩
          have hw := hw.symm
          subst hw
          go_wp2_with fail
          refine (HLAY.out _ (hX.out.all (Kp.al _ _))).mono ?_
          rintro e w5 ⟨rfl, hM5, hK5⟩
          have HM5 := hid hM5
          have HK5 := hid (hK.out.trans ((Kp.al _ _).all.trans hK5))
          clear hM5 hK5
          go_wp2_with fail
          exact ⟨⟨j + 1, by omega, by go_num, HM5, HK5⟩, by simp [ivl]; omega⟩
        · have db : decide ((bb : Int) < 128) = false := decide_eq_false (by omega)
          have hno := preF_no M HBB.out hb2
          have HNO : Hid (Qs k0 k1 bx bw' cw' bs' cs' (layN (sipP k0 k1) (madeP M.g) (fullP M) (preF M (j + 1)).length) wr) := hid (by rw [hno]; exact hX.out)
          clear hno hpl hjl
          go_wp2_with fail
          refine (HG3.out _).mono ?_
          rintro e w4 ⟨rfl, hw⟩
          have hw := hw.symm
          subst hw
          go_wp2_with fail
          exact ⟨⟨j + 1, by omega, by go_num, hid (HNO.out.all (Kp.al _ _)), hid (hK.out.alloc _)⟩, by simp [ivl]; omega⟩
      · have d9 : decide ((j : Int) < 8 * (M.g : Int)) = false := decide_eq_false (by omega)
        have hjn : j = M.ctrl.length := by rw [HCL.out]; omega
        have hX2 := hX.out
        rw [hjn, preF_full, HAL.out] at hX2
        have cx := blk_cell hX2.str
        have cm2 := blk_cell hMw.str
        have fm2 := blk_free hMw.str
        have HBM := hid hMw.str; have HX3 := hid hX2
        clear hjn hMw hX2 cm
        go_wp2_with fail
        go_end0
        have hk : Kp (fun b => b ≠ bm) w wr := KA.out.then hK.out (fun i hi _ => ⟨by omega, by omega, by omega⟩) |>.all
        exact ⟨rfl, bw', cw', bs', cs', HX3.out.copy HBM.out (by omega) (by omega), fun b hb _ => ⟨by omega, by omega⟩, (((((hk.setOut (by simp) _).setOut (by simp) _).setOut (by simp) _).setOut (by simp) _).setOut (by simp) _).setOut (by simp) _⟩
end Go.Proofs.YtodledidabdkaaaGreatDoor

namespace Go.Proofs.YtodledidabdkaaaGreatDoor
open Go.RowKit Go.Shelf V
set_option linter.unusedVariables false
set_option linter.unusedSimpArgs false
/-- What a change of the document's map leaves. -/
def PutQ (k0 k1 bm : Nat) (M' : Mp) (O : Nat → Prop) (w w' : World) : Prop := ∃ O', Ql k0 k1 bm M' O' w' ∧ (∀ b, b < w.heap.size → O' b → O b) ∧ Kp (fun b => ¬ O b) w w'
set_option maxRecDepth 100000 in
set_option maxHeartbeats 2000000 in
theorem r5put_any (k0 k1 bm : Nat) (M : Mp) (O : Nat → Prop) (key v : ByteArray) (hkey : key.size ≤ 9000000000000000000) (w : World) (h : Ql k0 k1 bm M O w) :
    Calls Tryz.prog 10 #[.pointer (some ⟨bm, 0, none⟩), .string key, .string v] w fun e w' => e = .returned (.tuple #[.bool (putP (sipP k0 k1) M key v).2.1, .int .i64 ((putP (sipP k0 k1) M key v).2.2 : Nat)]) ∧ PutQ k0 k1 bm (putP (sipP k0 k1) M key v).1 O w w' := by
  obtain ⟨bw, cw, bs, cs, hm, hO⟩ := h.ms
  have hI := h.inv
  have hP := hI.pm
  have hinv := put_inv hI key v
  have hLK : Hid (∀ k' v', Has (putP (sipP k0 k1) M key v).1 k' v' → k'.size ≤ 9000000000000000000) := hid fun k' v' hh => by
    rcases hinv.2 with ⟨e, _⟩ | ⟨_, _, _, e⟩
    · rw [e] at hh; exact h.keys _ _ hh
    · rcases (e _ _).1 hh with ⟨rfl, _⟩ | ⟨_, hh⟩
      · exact hkey
      · exact h.keys _ _ hh
  have HINV := hid hinv.1
  have HM := hid hm; have HI := hid hI; have HOO := hid hO; have HP := hid hP; have HH := hid h
  have hg1 := hP.g1
  have hcn := hI.most
  have hro := hI.room
  have HFIND := hid (r5find_any k0 k1 bm bw cw bs cs M hP h.h0 h.h1 key hkey w hm)
  have hdef : Hid (putP (sipP k0 k1) M key v = match findP (sipP k0 k1) M key with
    | some i => (setV M i v, true, 0)
    | none => if 2000 ≤ M.cnt then (M, false, 7) else (layP (sipP k0 k1) (if 7 * M.g ≤ M.cnt + M.tmb then rehashP (sipP k0 k1) M else M) (key, v), false, 0)) := hid rfl
  obtain ⟨PR, hPR⟩ : ∃ PR, putP (sipP k0 k1) M key v = PR := ⟨_, rfl⟩
  rw [hPR] at hLK HINV hdef ⊢
  clear hPR hm hI hO hinv h hP
  cases hf : findP (sipP k0 k1) M key with
  | some i =>
    have hPRe : PR = (setV M i v, true, 0) := by rw [hdef.out, hf]
    subst hPRe
    rw [hf] at HFIND
    obtain ⟨v0, hFu⟩ := find_mem HI.out hf
    have hi : i < 8 * M.g := by have := hFu.lt; rw [HP.out.len] at this; exact this
    obtain ⟨_, _, _, hsl⟩ := hFu
    have HSL := hid hsl
    clear hsl hf hdef
    have d1 : decide ((0 : Int) ≤ (i : Int)) = true := decide_eq_true (by omega)
    have i0 : (0 : Int) ≤ (i : Int) := by omega
    have i1 : (i : Int) < 8 * (M.g : Int) := by omega
    go_enter Tryz.func10, Tryz.ntmps10
    go_wp2_with fail
    refine HFIND.out.mono ?_
    rintro e w2 ⟨rfl, hk⟩
    simp only [optV]
    have hM2 := HM.out.all hk
    have c2 := blk_cell hM2.str
    obtain ⟨_, s2⟩ := hM2.slot HP.out.slen hi
    have fs : ∀ x, w2.frozen? ⟨bs, x, none⟩ = false := by
      obtain ⟨_, e, _⟩ := hM2.sls
      exact blk_free e
    have HK := hid hk; have HM2 := hid hM2
    clear hk hM2
    go_wp2_with fail
    refine bodyPost_ret (v := .tuple #[.bool true, .int .i64 0]) (by simp [results, Tryz.results10, go_sem]) rfl ⟨rfl, O, ⟨⟨bw, cw, bs, cs, ?_, HOO.out⟩, HINV.out, HH.out.h0, HH.out.h1, hLK.out⟩, fun _ _ h => h, ?_⟩
    · have := HM2.out.setV HSL.out v
      unfold setV
      rw [getD_of HSL.out]
      exact this
    · exact (HK.out.all).setOut (fun h => h ((HOO.out _).2 (.inr (.inr rfl)))) _
  | none =>
    have hPRe : PR = if 2000 ≤ M.cnt then (M, false, 7) else (layP (sipP k0 k1) (if 7 * M.g ≤ M.cnt + M.tmb then rehashP (sipP k0 k1) M else M) (key, v), false, 0) := by rw [hdef.out, hf]
    rw [hf] at HFIND
    clear hf hdef
    have d1 : decide ((0 : Int) ≤ (-1 : Int)) = false := by decide
    by_cases h2 : 2000 ≤ M.cnt
    · rw [if_pos h2] at hPRe
      subst hPRe
      have d2 : decide ((2000 : Int) ≤ (M.cnt : Int)) = true := decide_eq_true (by omega)
      go_enter Tryz.func10, Tryz.ntmps10
      go_wp2_with fail
      refine HFIND.out.mono ?_
      rintro e w2 ⟨rfl, hk⟩
      simp only [optV]
      have hM2 := HM.out.all hk
      have c2 := blk_cell hM2.str
      have HK := hid hk
      clear hk hM2
      go_wp2_with fail
      exact bodyPost_ret (v := .tuple #[.bool false, .int .i64 7]) (by simp [results, Tryz.results10, go_sem]) rfl ⟨rfl, O, HH.out.all HK.out, fun _ _ h => h, HK.out.all⟩
    · rw [if_neg h2] at hPRe
      have d2 : decide ((2000 : Int) ≤ (M.cnt : Int)) = false := decide_eq_false (by omega)
      by_cases h3 : 7 * M.g ≤ M.cnt + M.tmb
      · rw [if_pos h3] at hPRe
        have d3 : decide (7 * (M.g : Int) ≤ (M.cnt : Int) + (M.tmb : Int)) = true := decide_eq_true (by omega)
        have hw1 : IntKind.i64.wrap ((M.cnt : Int) + (M.tmb : Int)) = (M.cnt : Int) + (M.tmb : Int) := IntWalk.i64_in _ (by omega)
        have hw2 : IntKind.i64.wrap (7 * (M.g : Int)) = 7 * (M.g : Int) := IntWalk.i64_in _ (by omega)
        go_enter Tryz.func10, Tryz.ntmps10
        go_wp2_with fail
        refine HFIND.out.mono ?_
        rintro e w2 ⟨rfl, hk⟩
        simp only [optV]
        have hM2 := HM.out.all hk
        have c2 := blk_cell hM2.str
        have HK := hid hk; have HM2 := hid hM2
        clear hk hM2
        go_wp2_with fail
        go_quiet (fail)
        rename_i nq
        have hreh := rehash_inv HI.out h3 (by omega)
        obtain ⟨r1, r2, r3, r4, r5⟩ := hreh
        go_wp2_with fail
        refine (r5rehash_any k0 k1 bm bw cw bs cs M HH.out.h0 HH.out.h1 HI.out h3 (by omega) (fun s hs => HH.out.keys s.1 s.2 (mem_full.1 hs)) _ (HM2.out.all ((Kp.refl _ _).drewN nq))).mono ?_
        rintro e w3 ⟨rfl, bw', cw', bs', cs', hM3, hnew, hK3⟩
        obtain ⟨R, hR⟩ : ∃ R, rehashP (sipP k0 k1) M = R := ⟨_, rfl⟩
        rw [hR] at hM3 r1 r2 r3 r4 r5 hPRe
        clear hR
        have hfr : layL R.ctrl (seqP (sipP k0 k1 key / 128) R.g) ≠ none := by
          obtain ⟨_, _, _, _, _, _, _, _, e, _⟩ := lay_at r1 (key, v)
          rw [e]; simp
        have hro2 := r1.room
        have hgg := r1.pm.g1
        have HL := hid (r5lay_any k0 k1 bm bw' cw' bs' cs' R r1.pm r1.bytes ⟨by omega, by omega⟩ HH.out.h0 HH.out.h1 key v hkey hfr w3 hM3)
        have HNW := hid hnew; have HK3 := hid hK3
        clear hfr hM3 hnew hK3 r1 r2 r3 r4 r5
        go_wp2_with fail
        refine HL.out.mono ?_
        rintro e w4 ⟨rfl, hM4, hK4⟩
        have HM4 := hid hM4; have HK4 := hid hK4
        clear hM4 hK4
        subst hPRe
        go_wp2_with fail
        refine bodyPost_ret (v := .tuple #[.bool false, .int .i64 0]) (by simp [results, Tryz.results10, go_sem]) rfl ⟨rfl, fun b => b = bm ∨ b = bw' ∨ b = bs', ⟨⟨bw', cw', bs', cs', HM4.out, fun _ => Iff.rfl⟩, HINV.out, HH.out.h0, HH.out.h1, hLK.out⟩, fun b hb hO' => ?_, ?_⟩
        · have hb2 : b < (w2.drewN nq).heap.size := Nat.lt_of_lt_of_le hb HK.out.size
          by_cases e : b = bm
          · exact (HOO.out _).2 (.inl e)
          · have := HNW.out b hb2 e
            rcases hO' with e1 | e1 | e1
            · exact absurd e1 e
            · exact absurd e1 this.1
            · exact absurd e1 this.2
        · have k1 : Kp (fun b => b ≠ bm) w w3 := ((HK.out.drewN nq).all).then HK3.out (fun i hi h => h)
          have k2 : Kp (fun b => ¬ O b) w w3 := k1.mono (fun i hi h e => h ((HOO.out _).2 (.inl e)))
          exact k2.then HK4.out (fun i hi hO => by
            have e : i ≠ bm := fun e => hO ((HOO.out _).2 (.inl e))
            have := HNW.out i (Nat.lt_of_lt_of_le hi HK.out.size) e
            exact ⟨e, this.1, this.2⟩)
      · rw [if_neg h3] at hPRe
        have d3 : decide (7 * (M.g : Int) ≤ (M.cnt : Int) + (M.tmb : Int)) = false := decide_eq_false (by omega)
        have hw1 : IntKind.i64.wrap ((M.cnt : Int) + (M.tmb : Int)) = (M.cnt : Int) + (M.tmb : Int) := IntWalk.i64_in _ (by omega)
        have hw2 : IntKind.i64.wrap (7 * (M.g : Int)) = 7 * (M.g : Int) := IntWalk.i64_in _ (by omega)
        go_enter Tryz.func10, Tryz.ntmps10
        go_wp2_with fail
        refine HFIND.out.mono ?_
        rintro e w2 ⟨rfl, hk⟩
        simp only [optV]
        have hM2 := HM.out.all hk
        have c2 := blk_cell hM2.str
        have HK := hid hk; have HM2 := hid hM2
        clear hk hM2
        go_wp2_with fail
        go_quiet (fail)
        rename_i nq
        have hfr : layL M.ctrl (seqP (sipP k0 k1 key / 128) M.g) ≠ none := by
          obtain ⟨_, _, _, _, _, _, _, _, e, _⟩ := lay_at HI.out (key, v)
          rw [e]; simp
        have HL := hid (r5lay_any k0 k1 bm bw cw bs cs M HP.out HI.out.bytes ⟨by omega, by omega⟩ HH.out.h0 HH.out.h1 key v hkey hfr (w2.drewN nq) (HM2.out.all ((Kp.refl _ _).drewN nq)))
        clear hfr
        go_wp2_with fail
        refine HL.out.mono ?_
        rintro e w4 ⟨rfl, hM4, hK4⟩
        have HM4 := hid hM4; have HK4 := hid hK4
        clear hM4 hK4
        subst hPRe
        go_wp2_with fail
        refine bodyPost_ret (v := .tuple #[.bool false, .int .i64 0]) (by simp [results, Tryz.results10, go_sem]) rfl ⟨rfl, O, ⟨⟨bw, cw, bs, cs, HM4.out, HOO.out⟩, HINV.out, HH.out.h0, HH.out.h1, hLK.out⟩, fun _ _ h => h, ?_⟩
        exact ((HK.out.drewN nq).all).then HK4.out (fun i hi hO => ⟨fun e => hO ((HOO.out _).2 (.inl e)), fun e => hO ((HOO.out _).2 (.inr (.inl e))), fun e => hO ((HOO.out _).2 (.inr (.inr e)))⟩)
set_option maxRecDepth 100000 in
set_option maxHeartbeats 2000000 in
theorem r5del_any (k0 k1 bm : Nat) (M : Mp) (O : Nat → Prop) (key : ByteArray) (hkey : key.size ≤ 9000000000000000000) (w : World) (h : Ql k0 k1 bm M O w) :
    Calls Tryz.prog 12 #[.pointer (some ⟨bm, 0, none⟩), .string key] w fun e w' => e = .returned (.bool (delP (sipP k0 k1) M key).2) ∧ Ql k0 k1 bm (delP (sipP k0 k1) M key).1 O w' ∧ Kp (fun b => ¬ O b) w w' := by
  obtain ⟨bw, cw, bs, cs, hm, hO⟩ := h.ms
  have hI := h.inv
  have hP := hI.pm
  have hg1 := hP.g1
  have hinv := del_inv hI key
  have HH := hid h; have HM := hid hm; have HOO := hid hO; have HP := hid hP
  have HFIND := hid (r5find_any k0 k1 bm bw cw bs cs M hP h.h0 h.h1 key hkey w hm)
  have hdef : Hid (delP (sipP k0 k1) M key = match findP (sipP k0 k1) M key with
    | none => (M, false)
    | some i => (⟨M.ctrl.set i (delC M i), M.slots.set i zslot⟩, true)) := hid rfl
  obtain ⟨PR, hPR⟩ : ∃ PR, delP (sipP k0 k1) M key = PR := ⟨_, rfl⟩
  rw [hPR] at hinv hdef ⊢
  have HINV := hid hinv
  clear hPR hm hO hinv h hP
  cases hf : findP (sipP k0 k1) M key with
  | none =>
    have hPRe : PR = (M, false) := by rw [hdef.out, hf]
    subst hPRe
    rw [hf] at HFIND
    have d1 : decide ((-1 : Int) < 0) = true := by decide
    clear hf hdef
    go_enter Tryz.func12, Tryz.ntmps12
    go_wp2_with fail
    refine HFIND.out.mono ?_
    rintro e w2 ⟨rfl, hk⟩
    simp only [optV]
    have HK := hid hk
    clear hk
    go_wp2_with fail
    go_ret
    exact ⟨rfl, HH.out.all HK.out, HK.out.all⟩
  | some i =>
    have hPRe : PR = (⟨M.ctrl.set i (delC M i), M.slots.set i zslot⟩, true) := by rw [hdef.out, hf]
    subst hPRe
    rw [hf] at HFIND
    obtain ⟨v0, hFu⟩ := find_mem hI hf
    have hi : i < 8 * M.g := by have := hFu.lt; rw [HP.out.len] at this; exact this
    obtain ⟨c, hc1, hc2, hsl⟩ := hFu
    have HT := hid (del_tmb hc1 hc2)
    have hcnt : M.cnt = Mp.cnt ⟨M.ctrl.set i (delC M i), M.slots.set i zslot⟩ + 1 := by have := HINV.out.2.2.1; simpa using this.symm
    have HCN := hid hcnt
    have hmo := hI.most
    have hro := hI.room
    clear hsl hf hdef hc1 hc2 hcnt
    obtain ⟨q, hq⟩ : ∃ q, q = i / 8 := ⟨_, rfl⟩
    have hqg : q < M.g := by omega
    have hj8 : i % 8 < 8 := by omega
    have hij : i = 8 * q + i % 8 := by omega
    have HEM := hid (fun w => r3match_any (grp M.ctrl q) (HP.out.gb q) (HP.out.g8 hqg) 128 (by omega) w)
    have HST := hid (fun c hc w => r3set_any (grp M.ctrl q) (HP.out.gb q) (HP.out.g8 hqg) i c (by omega) hc w)
    have hquo : Int.tdiv (i : Int) 8 = (q : Int) := by rw [hq]; rfl
    have HIJ := hid hij; have HQ := hid hq
    have d1 : decide ((i : Int) < 0) = false := decide_eq_false (by omega)
    have i0 : (0 : Int) ≤ (i : Int) := by omega
    have i1 : (i : Int) < 8 * (M.g : Int) := by omega
    have q0 : (0 : Int) ≤ (q : Int) := by omega
    have q1 : (q : Int) < (M.g : Int) := by omega
    have hgm := hg1.2
    clear hij hq
    by_cases hz : bitsOf (fun b => b == 128) (grp M.ctrl q) = 0
    · have hx : delC M i = 254 := by unfold delC; rw [← HQ.out, if_pos hz]
      rw [← HQ.out, if_pos hz] at HT
      have d2 : (((bitsOf (fun b => b == 128) (grp M.ctrl q) : Nat) : Int) == 0) = true := by rw [hz]; rfl
      have d3 : (!(((bitsOf (fun b => b == 128) (grp M.ctrl q) : Nat) : Int) == 0)) = false := by rw [d2]; rfl
      have d4 : (((bitsOf (fun b => b == 128) (grp M.ctrl q) : Nat) : Int) != 0) = false := by simp [bne, d2]
      obtain ⟨bb, hbb⟩ : ∃ bb, bitsOf (fun b => b == 128) (grp M.ctrl q) = bb := ⟨_, rfl⟩
      rw [hbb] at HEM d2 d3 d4
      obtain ⟨wq, hwq⟩ : ∃ wq, wd (grp M.ctrl q) = wq := ⟨_, rfl⟩
      simp only [hwq] at HEM HST
      have HWQ := hid hwq
      clear hbb hwq hz
      go_enter Tryz.func12, Tryz.ntmps12
      go_wp2_with fail
      refine HFIND.out.mono ?_
      rintro e w2 ⟨rfl, hk⟩
      simp only [optV]
      have hM2 := HM.out.all hk
      have c2 := blk_cell hM2.str
      have fbm := blk_free hM2.str
      have hwd := hM2.word (by have := HP.out.len; omega) hqg
      rw [HWQ.out] at hwd
      have HK := hid hk; have HM2 := hid hM2
      clear hk hM2
      go_wp2_with fail
      refine (HEM.out _).mono ?_
      rintro e w3 ⟨rfl, hw⟩
      have hw := hw.symm
      subst hw
      go_wp2_with fail
      obtain ⟨V, hV⟩ : ∃ V, V = w2.setCell ⟨bm, 5, none⟩ (.int .i64 ((M.tmb : Int) + 1)) := ⟨_, rfl⟩
      rw [← hV]
      have HMV : Hid (Qr k0 k1 bm bw cw bs cs M.g M.ctrl M.slots M.cnt ((M.tmb : Int) + 1) V) := hid (by rw [hV]; exact HM2.out.setT _)
      have HKV : Hid (Kp (fun b => ¬ O b) w V) := hid (by rw [hV]; exact HK.out.all.setOut (fun h => h ((HOO.out _).2 (.inl rfl))) _)
      clear hV fbm c2 hwd
      have cv := blk_cell HMV.out.str
      have fv := blk_free HMV.out.str
      have hwd := HMV.out.word (by have := HP.out.len; omega) hqg
      rw [HWQ.out] at hwd
      obtain ⟨cur, hcur⟩ : ∃ cur, V.heap[bw]? = some (.cells cur 22 (0, 0)) := by obtain ⟨c, e, _⟩ := HMV.out.wds; exact ⟨c, e⟩
      have fw := blk_free hcur
      obtain ⟨cur2, hcur2, hcz⟩ : ∃ cur2, V.heap[bs]? = some (.cells cur2 75 (0, 0)) ∧ cur2.size = cs * 2 := by obtain ⟨c, e, e2, _⟩ := HMV.out.sls; exact ⟨c, e, e2⟩
      have fs := blk_free hcur2
      have hcsl := HMV.out.csl
      obtain ⟨u1, fc1⟩ : ∃ u, V.cell? ⟨bs, i * 2, none⟩ = some u := ⟨_, by rw [blk_cell hcur2]; exact Array.getElem?_eq_getElem (by omega)⟩
      obtain ⟨u2, fc2⟩ : ∃ u, V.cell? ⟨bs, i * 2 + 1, none⟩ = some u := ⟨_, by rw [blk_cell hcur2]; exact Array.getElem?_eq_getElem (by omega)⟩
      have e1 : ¬ bm = bw := HMV.out.d1
      have e2 : ¬ bm = bs := HMV.out.d2
      have e3 : ¬ bw = bs := HMV.out.d3
      have e4 : ¬ bw = bm := Ne.symm e1
      have e5 : ¬ bs = bm := Ne.symm e2
      have e6 : ¬ bs = bw := Ne.symm e3
      clear hcur hcur2
      refine RegionLast.wp_region_end_quiet (by kernel_rfl) (by kernel_rfl) (by kernel_rfl) ?_; simp only [List.length_cons, List.length_nil, Nat.zero_add, Nat.reduceAdd, Nat.reduceSub, List.take_succ_cons, List.take_zero, List.drop_succ_cons, List.drop_zero]
      repeat (go_big_quiet_step ((go_at_call 43; refine (HST.out 254 (by omega) _).mono ?_; rintro e w4 ⟨rfl, rfl⟩; exact ⟨rfl, _, rfl⟩)))
      refine wpQuiet_nil ?_; intro _ hw'; obtain ⟨nq, hw''⟩ := hw'; subst hw''
      go_wp2_with fail
      go_ret
      refine ⟨rfl, ⟨⟨bw, cw, bs, cs, ?_, HOO.out⟩, HINV.out.1, HH.out.h0, HH.out.h1, fun k v hh => HH.out.keys k v ((HINV.out.2.2.2 k v).1 hh).2⟩, ?_⟩
      · have h5 := (((HMV.out.all ((Kp.refl _ V).drewN nq)).setW (x := 254) (by have := HP.out.len; omega) hj8 hqg).setS i zslot).setN ((M.cnt : Int) - 1)
        rw [← HIJ.out] at h5
        have hgg : Mp.g ⟨M.ctrl.set i 254, M.slots.set i zslot⟩ = M.g := by simp [Mp.g]
        rw [hx] at HCN HT ⊢
        show Qr k0 k1 bm bw cw bs cs (Mp.g ⟨M.ctrl.set i 254, M.slots.set i zslot⟩) (M.ctrl.set i 254) (M.slots.set i zslot) (Mp.cnt ⟨M.ctrl.set i 254, M.slots.set i zslot⟩ : Nat) (Mp.tmb ⟨M.ctrl.set i 254, M.slots.set i zslot⟩ : Nat) _
        rw [hgg, HT.out, show ((Mp.cnt ⟨M.ctrl.set i 254, M.slots.set i zslot⟩ : Nat) : Int) = (M.cnt : Int) - 1 from by rw [HCN.out]; omega]
        exact h5
      · exact ((((HKV.out.drewN nq).setOut (fun h => h ((HOO.out _).2 (.inr (.inl rfl)))) _).setOut (fun h => h ((HOO.out _).2 (.inr (.inr rfl)))) _).setOut (fun h => h ((HOO.out _).2 (.inr (.inr rfl)))) _).setOut (fun h => h ((HOO.out _).2 (.inl rfl))) _
    · have hx : delC M i = 128 := by unfold delC; rw [← HQ.out, if_neg hz]
      rw [← HQ.out, if_neg hz] at HT
      have d2 : (((bitsOf (fun b => b == 128) (grp M.ctrl q) : Nat) : Int) == 0) = false := by simp; omega
      have d3 : (!(((bitsOf (fun b => b == 128) (grp M.ctrl q) : Nat) : Int) == 0)) = true := by rw [d2]; rfl
      have d4 : (((bitsOf (fun b => b == 128) (grp M.ctrl q) : Nat) : Int) != 0) = true := by simp [bne, d2]
      obtain ⟨bb, hbb⟩ : ∃ bb, bitsOf (fun b => b == 128) (grp M.ctrl q) = bb := ⟨_, rfl⟩
      rw [hbb] at HEM d2 d3 d4
      obtain ⟨wq, hwq⟩ : ∃ wq, wd (grp M.ctrl q) = wq := ⟨_, rfl⟩
      simp only [hwq] at HEM HST
      have HWQ := hid hwq
      clear hbb hwq hz
      go_enter Tryz.func12, Tryz.ntmps12
      go_wp2_with fail
      refine HFIND.out.mono ?_
      rintro e w2 ⟨rfl, hk⟩
      simp only [optV]
      have hM2 := HM.out.all hk
      have c2 := blk_cell hM2.str
      have fbm := blk_free hM2.str
      have hwd := hM2.word (by have := HP.out.len; omega) hqg
      rw [HWQ.out] at hwd
      have HK := hid hk; have HM2 := hid hM2
      clear hk hM2
      go_wp2_with fail
      refine (HEM.out _).mono ?_
      rintro e w3 ⟨rfl, hw⟩
      have hw := hw.symm
      subst hw
      go_wp2_with fail
      obtain ⟨V, hV⟩ : ∃ V, V = w2 := ⟨_, rfl⟩
      rw [← hV]
      have HMV : Hid (Qr k0 k1 bm bw cw bs cs M.g M.ctrl M.slots M.cnt (M.tmb : Int) V) := hid (by rw [hV]; exact HM2.out)
      have HKV : Hid (Kp (fun b => ¬ O b) w V) := hid (by rw [hV]; exact HK.out.all)
      clear hV fbm c2 hwd
      have cv := blk_cell HMV.out.str
      have fv := blk_free HMV.out.str
      have hwd := HMV.out.word (by have := HP.out.len; omega) hqg
      rw [HWQ.out] at hwd
      obtain ⟨cur, hcur⟩ : ∃ cur, V.heap[bw]? = some (.cells cur 22 (0, 0)) := by obtain ⟨c, e, _⟩ := HMV.out.wds; exact ⟨c, e⟩
      have fw := blk_free hcur
      obtain ⟨cur2, hcur2, hcz⟩ : ∃ cur2, V.heap[bs]? = some (.cells cur2 75 (0, 0)) ∧ cur2.size = cs * 2 := by obtain ⟨c, e, e2, _⟩ := HMV.out.sls; exact ⟨c, e, e2⟩
      have fs := blk_free hcur2
      have hcsl := HMV.out.csl
      obtain ⟨u1, fc1⟩ : ∃ u, V.cell? ⟨bs, i * 2, none⟩ = some u := ⟨_, by rw [blk_cell hcur2]; exact Array.getElem?_eq_getElem (by omega)⟩
      obtain ⟨u2, fc2⟩ : ∃ u, V.cell? ⟨bs, i * 2 + 1, none⟩ = some u := ⟨_, by rw [blk_cell hcur2]; exact Array.getElem?_eq_getElem (by omega)⟩
      have e1 : ¬ bm = bw := HMV.out.d1
      have e2 : ¬ bm = bs := HMV.out.d2
      have e3 : ¬ bw = bs := HMV.out.d3
      have e4 : ¬ bw = bm := Ne.symm e1
      have e5 : ¬ bs = bm := Ne.symm e2
      have e6 : ¬ bs = bw := Ne.symm e3
      clear hcur hcur2
      refine RegionLast.wp_region_end_quiet (by kernel_rfl) (by kernel_rfl) (by kernel_rfl) ?_; simp only [List.length_cons, List.length_nil, Nat.zero_add, Nat.reduceAdd, Nat.reduceSub, List.take_succ_cons, List.take_zero, List.drop_succ_cons, List.drop_zero]
      repeat (go_big_quiet_step ((go_at_call 43; refine (HST.out 128 (by omega) _).mono ?_; rintro e w4 ⟨rfl, rfl⟩; exact ⟨rfl, _, rfl⟩)))
      refine wpQuiet_nil ?_; intro _ hw'; obtain ⟨nq, hw''⟩ := hw'; subst hw''
      go_wp2_with fail
      go_ret
      refine ⟨rfl, ⟨⟨bw, cw, bs, cs, ?_, HOO.out⟩, HINV.out.1, HH.out.h0, HH.out.h1, fun k v hh => HH.out.keys k v ((HINV.out.2.2.2 k v).1 hh).2⟩, ?_⟩
      · have h5 := (((HMV.out.all ((Kp.refl _ V).drewN nq)).setW (x := 128) (by have := HP.out.len; omega) hj8 hqg).setS i zslot).setN ((M.cnt : Int) - 1)
        rw [← HIJ.out] at h5
        have hgg : Mp.g ⟨M.ctrl.set i 128, M.slots.set i zslot⟩ = M.g := by simp [Mp.g]
        rw [hx] at HCN HT ⊢
        show Qr k0 k1 bm bw cw bs cs (Mp.g ⟨M.ctrl.set i 128, M.slots.set i zslot⟩) (M.ctrl.set i 128) (M.slots.set i zslot) (Mp.cnt ⟨M.ctrl.set i 128, M.slots.set i zslot⟩ : Nat) (Mp.tmb ⟨M.ctrl.set i 128, M.slots.set i zslot⟩ : Nat) _
        rw [hgg, HT.out, show ((Mp.cnt ⟨M.ctrl.set i 128, M.slots.set i zslot⟩ : Nat) : Int) = (M.cnt : Int) - 1 from by rw [HCN.out]; omega]
        exact h5
      · exact ((((HKV.out.drewN nq).setOut (fun h => h ((HOO.out _).2 (.inr (.inl rfl)))) _).setOut (fun h => h ((HOO.out _).2 (.inr (.inr rfl)))) _).setOut (fun h => h ((HOO.out _).2 (.inr (.inr rfl)))) _).setOut (fun h => h ((HOO.out _).2 (.inl rfl))) _
set_option maxRecDepth 100000 in
theorem r5get_any (k0 k1 bm bw cw bs cs : Nat) (M : Mp) (hP : Pm M) (h0 : k0 < 18446744073709551616) (h1 : k1 < 18446744073709551616) (key : ByteArray) (hkey : key.size ≤ 9000000000000000000) (w : World) (h : Qs k0 k1 bm bw cw bs cs M w) (hin : ∀ i, findP (sipP k0 k1) M key = some i → i < 8 * M.g) :
    Calls Tryz.prog 45 #[.pointer (some ⟨bm, 0, none⟩), .string key] w fun e w' => e = .returned (getV (getP' (sipP k0 k1) M key)) ∧ Kp All w w' := by
  have HF := hid (r5find_any k0 k1 bm bw cw bs cs M hP h0 h1 key hkey w h)
  have HMS := hid h; have HIN := hid hin; have HPP := hid hP
  rw [show getP' (sipP k0 k1) M key = (findP (sipP k0 k1) M key).map (fun i => (M.slots.getD i zslot).2) from rfl]
  clear h hin
  go_enter Tryz.func45, Tryz.ntmps45
  go_wp2_with fail
  refine HF.out.mono ?_
  rintro e w2 ⟨rfl, hk⟩
  have HK := hid hk
  clear hk
  cases hf : findP (sipP k0 k1) M key with
  | none =>
    have d1 : decide ((-1 : Int) < 0) = true := by decide
    simp only [optV]
    go_wp2_with fail
    exact bodyPost_ret (v := .tuple #[.string ByteArray.empty, .bool false]) (by simp [results, Tryz.results45, go_sem]; rfl) rfl ⟨by rw [hf]; rfl, HK.out⟩
  | some i =>
    have hi := HIN.out i hf
    have hM2 := HMS.out.all HK.out
    have c0 := blk_cell hM2.str
    obtain ⟨_, s2⟩ := hM2.slot HPP.out.slen hi
    have d1 : decide ((i : Int) < 0) = false := decide_eq_false (by omega)
    have i0 : (0 : Int) ≤ (i : Int) := by omega
    have i1 : (i : Int) < 8 * (M.g : Int) := by omega
    simp only [optV]
    obtain ⟨vv, hvv⟩ : ∃ vv, (M.slots.getD i zslot).2 = vv := ⟨_, rfl⟩
    rw [hvv] at s2
    have HV := hid hvv
    clear hvv
    go_wp2_with fail
    exact bodyPost_ret (v := .tuple #[.string vv, .bool true]) (by simp [results, Tryz.results45, go_sem]) rfl ⟨by rw [hf, Option.map_some, HV.out]; rfl, HK.out⟩
end Go.Proofs.YtodledidabdkaaaGreatDoor
