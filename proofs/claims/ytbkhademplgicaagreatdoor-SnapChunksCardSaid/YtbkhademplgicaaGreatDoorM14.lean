/- The snapshot layer's steps: functions done one behind the other, walked once. No condition but what the functions promise. The snapshot layer's Save: walked once. No condition but that the disk and the snapshot lie. The snapshot layer's Load: walked once. No condition but that the disk lies and its files are not great. -/
import Derived.Test.YtbkhademplgicaaGreatDoorM13
set_option linter.unusedVariables false
set_option linter.unusedSimpArgs false
namespace Go.Proofs.YtbkhademplgicaaGreatDoor
open Go.RowKit
set_option linter.unusedVariables false
set_option linter.unusedSimpArgs false
/-- A function's value. -/
abbrev Fv := Nat × Array Value × Array Value
def fv (f : Fv) : Value := .func (.func f.1) f.2.1 f.2.2
def StepR (I Fin : World → Prop) (FinE : Int → World → Prop) (e : Ending) (w' : World) : Prop := ∃ r : Int, e = .returned (.int .i64 r) ∧ (r = 0 → I w') ∧ (r ≠ 0 → FinE r w')
set_option maxRecDepth 100000 in
set_option maxHeartbeats 1000000 in
theorem steps_any (fs : List Fv) (n c : Nat) (A : Option Addr) (hn : fs.length = n) (hn1 : n ≤ 1000) (I : Nat → World → Prop) (Fin : Int → World → Prop) (w : World) (h0 : I 0 w)
    (hrow : ∀ k w, I k w → Sl A n c 1 (fs.map fv) w) (hE : ∀ f ∈ fs, Enters Tryz.prog f.1)
    (hstep : ∀ k f w, fs[k]? = some f → I k w → Calls Tryz.prog f.1 (f.2.1 ++ f.2.2) w fun e w' => ∃ r : Int, e = .returned (.int .i64 r) ∧ (r = 0 → I (k + 1) w') ∧ (r ≠ 0 → Fin r w')) (hend : ∀ w, I n w → Fin 0 w) :
    Calls Tryz.prog 54 #[.slice A n c] w fun e w' => ∃ r : Int, e = .returned (.int .i64 r) ∧ Fin r w' := by
  have H0 := hid h0; have HR := hid hrow; have HE := hid hE; have HS := hid hstep; have HN := hid hn; have HEND := hid hend
  clear h0 hrow hE hstep hn hend
  go_enter Tryz.func54, Tryz.ntmps54
  go_wp2_with fail
  go_loopw [8] (fun i wr => ∃ k : Nat, k ≤ n ∧ i = .int .i64 k ∧ Hid (I k wr)) (fun i _ => n - (intOf i).toNat)
  case atStart => exact ⟨0, Nat.zero_le _, rfl, H0⟩
  case round =>
    obtain ⟨k, hk, rfl, hI⟩ := hrel
    by_cases hlt : k < n
    · have hb0 : decide ((k : Int) < (n : Int)) = true := decide_eq_true (by omega)
      obtain ⟨⟨f, ar, cs⟩, hy⟩ : ∃ f, fs[k]? = some f := ⟨_, List.getElem?_eq_getElem (by rw [HN.out]; exact hlt)⟩
      obtain ⟨b, o, rfl, hrd⟩ := (HR.out k wr hI.out).2.2 (by omega)
      have hc := hrd k (fv (f, ar, cs)) (by rw [List.getElem?_map, hy]; rfl)
      rw [fv] at hc
      dsimp only at hc
      have hE0 : Enters Tryz.prog f := HE.out _ (List.mem_of_getElem? hy)
      have e1 : ∀ args w, (callFunc f args).run Tryz.prog w = .ok (.enter f args) w := hE0
      have HC := hid (HS.out k _ wr hy hI.out)
      have i0 : (0 : Int) ≤ (k : Int) := by omega
      have i1 : (k : Int) < (n : Int) := by omega
      clear hy hrd hE0
      go_wp2_with fail
      refine HC.out.mono ?_
      rintro e w2 ⟨r, rfl, h1, h2⟩
      have H1 := hid h1; have H2 := hid h2
      clear h1 h2
      by_cases hr0 : r = 0
      · have d1 : (r != 0) = false := by simp [hr0]
        go_wp2_with fail
        exact ⟨⟨k + 1, by omega, by go_num, hid (H1.out hr0)⟩, by simp [intOf]; omega⟩
      · have d1 : (r != 0) = true := by simpa using hr0
        go_wp2_with fail
        go_ret
        exact ⟨r, rfl, H2.out hr0⟩
    · have hb0 : decide ((k : Int) < (n : Int)) = false := decide_eq_false (by omega)
      obtain rfl : k = n := by omega
      go_wp2_with fail
      go_ret
      exact ⟨0, rfl, HEND.out _ hI.out⟩
end Go.Proofs.YtbkhademplgicaaGreatDoor

namespace Go.Proofs.YtbkhademplgicaaGreatDoor
open Go.RowKit
set_option linter.unusedVariables false
set_option linter.unusedSimpArgs false
/-- The states behind each step. -/
def st1 (D : DS) (x : Sn) : Int × DS := (creErr D freshN, creD D freshN)
def st2 (D : DS) (x : Sn) : Int × DS := appsP (st1 D x).2 (chunksB x)
def st3 (D : DS) (x : Sn) : Int × DS := (syncErr (st2 D x).2, syncD (st2 D x).2)
def st4 (D : DS) (x : Sn) : Int × DS := (renErr (st3 D x).2 freshN (snName x.index), renD (st3 D x).2 freshN (snName x.index))
def st5 (D : DS) (x : Sn) : Int × DS := remsP x.index (st4 D x).2 (idxP (st4 D x).2)
def stP (D : DS) (x : Sn) : Nat → Int × DS
  | 0 => (0, D)
  | 1 => st1 D x
  | 2 => st2 D x
  | 3 => st3 D x
  | 4 => st4 D x
  | _ => st5 D x
theorem saveP_eq {D : DS} {x : Sn} (h1 : D.off = false) (h2 : goodSnap x = true) (h3 : x.index ≤ 999999999) : saveP D x = if (st1 D x).1 = 0 then (if (st2 D x).1 = 0 then (if (st3 D x).1 = 0 then (if (st4 D x).1 = 0 then st5 D x else st4 D x) else st3 D x) else st2 D x) else st1 D x := by
  unfold saveP
  rw [if_neg (by simp [h1]), if_neg (by simp [h2]; omega)]
  rfl
theorem renErr_on {D : DS} {a b : Nm} (h : renErr D a b = 0) : (renD D a b).off = false := by
  unfold renErr at h
  unfold renD
  split at h
  · cases h
  next h0 =>
  rw [if_neg h0]
  split at h
  · next h1 =>
    rw [if_pos h1]
    split at h
    · cases h
    · next s hs =>
      split at h
      · next hf =>
        rw [if_pos hf]
        obtain ⟨_, _, _, e⟩ := begun_fit hf
        have h2 : D.off = false := by simpa using h0
        unfold ren1D
        split
        · rw [e]; exact h2
        · show D.begun.off = false
          rw [e]; exact h2
      · cases h
  · cases h
/-- From step k on. -/
theorem save_stop {D : DS} {x : Sn} (h1 : D.off = false) (h2 : goodSnap x = true) (h3 : x.index ≤ 999999999) {k : Nat} (hk : k < 5) (h : ∀ j, j ≤ k → (stP D x j).1 = 0) (hn : (stP D x (k + 1)).1 ≠ 0) : saveP D x = stP D x (k + 1) := by
  rw [saveP_eq h1 h2 h3]
  rcases k with _ | _ | _ | _ | _ | k
  · rw [if_neg (show (st1 D x).1 ≠ 0 from hn)]; rfl
  · rw [if_pos (show (st1 D x).1 = 0 from h 1 (by omega)), if_neg (show (st2 D x).1 ≠ 0 from hn)]; rfl
  · rw [if_pos (show (st1 D x).1 = 0 from h 1 (by omega)), if_pos (show (st2 D x).1 = 0 from h 2 (by omega)), if_neg (show (st3 D x).1 ≠ 0 from hn)]; rfl
  · rw [if_pos (show (st1 D x).1 = 0 from h 1 (by omega)), if_pos (show (st2 D x).1 = 0 from h 2 (by omega)), if_pos (show (st3 D x).1 = 0 from h 3 (by omega)), if_neg (show (st4 D x).1 ≠ 0 from hn)]; rfl
  · rw [if_pos (show (st1 D x).1 = 0 from h 1 (by omega)), if_pos (show (st2 D x).1 = 0 from h 2 (by omega)), if_pos (show (st3 D x).1 = 0 from h 3 (by omega)), if_pos (show (st4 D x).1 = 0 from h 4 (by omega))]; rfl
  · omega
theorem save_all {D : DS} {x : Sn} (h1 : D.off = false) (h2 : goodSnap x = true) (h3 : x.index ≤ 999999999) (h : ∀ j, j ≤ 4 → (stP D x j).1 = 0) : saveP D x = stP D x 5 := by
  rw [saveP_eq h1 h2 h3, if_pos (show (st1 D x).1 = 0 from h 1 (by omega)), if_pos (show (st2 D x).1 = 0 from h 2 (by omega)), if_pos (show (st3 D x).1 = 0 from h 3 (by omega)), if_pos (show (st4 D x).1 = 0 from h 4 (by omega))]; rfl
theorem en55 : Enters Tryz.prog 55 := enters_of Tryz.func55 (by kernel_rfl) rfl
theorem en57 : Enters Tryz.prog 57 := enters_of Tryz.func57 (by kernel_rfl) rfl
theorem en59 : Enters Tryz.prog 59 := enters_of Tryz.func59 (by kernel_rfl) rfl
theorem en60 : Enters Tryz.prog 60 := enters_of Tryz.func60 (by kernel_rfl) rfl
theorem en62 : Enters Tryz.prog 62 := enters_of Tryz.func62 (by kernel_rfl) rfl
def saveFs (p b1 b2 : Nat) : List Fv := [(55, #[], #[.pointer (some ⟨b1, 0, none⟩)]), (57, #[], #[.pointer (some ⟨b2, 0, none⟩), .pointer (some ⟨b1, 0, none⟩)]), (59, #[.pointer (some ⟨p, 0, none⟩)], #[]),
  (60, #[], #[.pointer (some ⟨b1, 0, none⟩), .pointer (some ⟨b2, 0, none⟩)]), (62, #[], #[.pointer (some ⟨b1, 0, none⟩), .pointer (some ⟨b2, 0, none⟩)])]
/-- The five steps. -/
theorem saves_any (b1 b2 p : Nat) (ro : Nat → Role) (D : DS) (hoff : D.off = false) {M : Nat} (hM5 : M ≤ 500) (hr : Rm 2000 M D) (x : Sn) (VA LA DA : Option Addr) (vn vc ln lc dn dc : Nat) (hgo : goodSnap x = true) (hi : x.index ≤ 999999999) (hx1 : -9223372036854775808 ≤ x.index) (A : Option Addr) (c : Nat) (w : World) (hg : Gl w) (g1 : ro 0 = .none) (g2 : ro 2 = .none) (h : Dk w p ro D)
    (hb : w.heap[b1]? = some (.cells #[.pointer (some ⟨p, 0, none⟩)] 51 (0, 0))) (hx : w.heap[b2]? = some (.cells #[.int .i64 x.index, .int .i64 x.term, .slice VA vn vc, .slice LA ln lc, .slice DA dn dc] 27 (0, 0))) (r1 : ro b1 = .none) (r2 : ro b2 = .none) (hs : SnpS (fun b => ro b = .none) x VA LA DA vn vc ln lc dn dc w)
    (hrow : Foot (fun b => ro b = .none) (Sl A 5 c 1 ((saveFs p b1 b2).map fv)) w) :
    Calls Tryz.prog 54 #[.slice A 5 c] w fun e w' => ∃ r : Int, e = .returned (.int .i64 r) ∧ (r = (saveP D x).1 ∧ Nx w ro p (saveP D x).2 w') := by
  obtain ⟨hq1, _⟩ := chunks_small hgo
  have m1 : Rm 1999 (M + 1) (stP D x 1).2 := hr.cre (by decide)
  have m2 : Rm 999 (M + 1) (stP D x 2).2 := Rm.apps (k := 999) (chunksB x) (m1.mono (by omega) (Nat.le_refl _))
  have m3 : Rm 998 (M + 1) (stP D x 3).2 := m2.sync
  have m4 : Rm 997 (M + 2) (stP D x 4).2 := m3.ren (snName_size _)
  have step : ∀ (k : Nat) (wr w' : World) (ro' : Nat → Role) (e : Ending), k < 5 → (∀ j, j ≤ k → (stP D x j).1 = 0) → DV (fun b => ro b = .none) w wr p ro' (stP D x k).2 → Op1 wr ro' p (stP D x (k + 1)).1 (stP D x (k + 1)).2 e w' →
      ∃ r : Int, e = .returned (.int .i64 r) ∧ (r = 0 → (∀ j, j ≤ k + 1 → (stP D x j).1 = 0) ∧ ∃ ro', DV (fun b => ro b = .none) w w' p ro' (stP D x (k + 1)).2) ∧ (r ≠ 0 → r = (saveP D x).1 ∧ Nx w ro p (saveP D x).2 w') := by
    rintro k wr w' ro' e hk hz hd ⟨rfl, hn⟩
    obtain ⟨ro2, hd2⟩ := hd.next hn
    refine ⟨_, rfl, fun h0 => ⟨fun j hj => ?_, ro2, hd2⟩, fun h0 => ?_⟩
    · by_cases e : j = k + 1
      · rw [e]; exact h0
      · exact hz j (by omega)
    · rw [save_stop hoff hgo hi hk hz h0]
      exact ⟨rfl, hd2.nx (Kp.refl _ _)⟩
  refine steps_any (saveFs p b1 b2) 5 c A rfl (by omega) (fun k wr => (∀ j, j ≤ k → (stP D x j).1 = 0) ∧ ∃ ro', DV (fun b => ro b = .none) w wr p ro' (stP D x k).2) (fun r w' => r = (saveP D x).1 ∧ Nx w ro p (saveP D x).2 w') w ⟨fun j hj => by
    have h0 : j = 0 := Nat.le_zero.1 hj
    rw [h0]; rfl, ro, h, Kp.refl _ _, fun _ _ h => h⟩ ?_ ?_ ?_ ?_
  · rintro k wr ⟨_, ro', hd⟩
    exact hrow wr hd.kp
  · intro f hf
    simp only [saveFs, List.mem_cons, List.mem_nil_iff, or_false] at hf
    rcases hf with rfl | rfl | rfl | rfl | rfl
    · exact en55
    · exact en57
    · exact en59
    · exact en60
    · exact en62
  · rintro k f wr hf ⟨hz, ro', hd⟩
    have hk : k < 5 := (List.getElem?_eq_some_iff.1 hf).1
    have hb1 := hd.kp.heap hb r1
    have hb2 := hd.kp.heap hx r2
    have hlt1 := (Array.getElem?_eq_some_iff.1 hb).1
    have hlt2 := (Array.getElem?_eq_some_iff.1 hx).1
    have q1 := hd.rn b1 hlt1 r1
    have q2 := hd.rn b2 hlt2 r2
    have hgr := hg.kept hd.kp g1 g2
    obtain ⟨lt1, lt2⟩ : 0 < w.heap.size ∧ 2 < w.heap.size := by
      obtain ⟨_, _, _, e1, _⟩ := hg.e
      obtain ⟨_, _, e2⟩ := hg.p
      exact ⟨(Array.getElem?_eq_some_iff.1 e1).1, (Array.getElem?_eq_some_iff.1 e2).1⟩
    have G1 := hd.rn _ lt1 g1
    have G2 := hd.rn _ lt2 g2
    refine Calls.mono (R := Op1 wr ro' p (stP D x (k + 1)).1 (stP D x (k + 1)).2) ?_ (fun e w' ho => step k wr w' ro' e hk hz hd ho)
    rcases k with _ | _ | _ | _ | _ | k
    · injection hf with hf; subst hf
      exact save1_any b1 p ro' D (hr.mono (by omega) (Nat.le_refl _)) wr hd.dk hb1
    · injection hf with hf; subst hf
      exact save2_any b1 b2 p ro' _ (m1.mono (by omega) (Nat.le_refl _)) x VA LA DA vn vc ln lc dn dc hgo wr hd.dk hb1 hb2 q1 ((hs.step hd.kp).snp)
    · injection hf with hf; subst hf
      exact sync_any p ro' _ m2.ok wr hd.dk
    · injection hf with hf; subst hf
      exact save3_any b1 b2 p ro' _ (m3.mono (by omega) (Nat.le_refl _)) x VA LA DA vn vc ln lc dn dc ⟨hx1, by omega⟩ wr hgr hd.dk hb1 hb2 q1 q2
    · injection hf with hf; subst hf
      exact save4_any b1 b2 p ro' _ (renErr_on (hz 4 (by omega))) (M := M + 2) (by omega) (m4.mono (by omega) (Nat.le_refl _)) x VA LA DA vn vc ln lc dn dc wr hgr G1 G2 hd.dk hb1 hb2 q1 q2
    · omega
  · rintro wr ⟨hz, ro', hd⟩
    rw [save_all hoff hgo hi (fun j hj => hz j (by omega))]
    exact ⟨(hz 5 (by omega)).symm, hd.nx (Kp.refl _ _)⟩
set_option maxRecDepth 100000 in
set_option maxHeartbeats 1000000 in
/-- Save. -/
theorem save_any (p : Nat) (ro : Nat → Role) (D : DS) {M : Nat} (hM5 : M ≤ 500) (hr : Rm 2000 M D) (x : Sn) (VA LA DA : Option Addr) (vn vc ln lc dn dc : Nat) (hbig : vn ≤ 9000000000000000000 ∧ ln ≤ 9000000000000000000) (w : World) (hg : Gl w) (g1 : ro 0 = .none) (g2 : ro 2 = .none) (h : Dk w p ro D)
    (hs : SnpS (fun b => ro b = .none) x VA LA DA vn vc ln lc dn dc w) :
    Calls Tryz.prog 22 #[.pointer (some ⟨p, 0, none⟩), .agg #[.int .i64 x.index, .int .i64 x.term, .slice VA vn vc, .slice LA ln lc, .slice DA dn dc]] w (Op1 w ro p (saveP D x).1 (saveP D x).2) := by
  have H := hid h; have HR := hid hr; have HS := hid hs; have HG := hid hg; have HBG := hid hbig
  obtain ⟨W, hW⟩ : ∃ W, W = (w.alloc (.cells #[.pointer (some ⟨p, 0, none⟩)] 51)).alloc (.cells #[.int .i64 x.index, .int .i64 x.term, .slice VA vn vc, .slice LA ln lc, .slice DA dn dc] 27) := ⟨_, rfl⟩
  have hk : Kp All w W := by rw [hW]; exact (Kp.al _ _).alloc _
  have hb1 : W.heap[w.heap.size]? = some (.cells #[.pointer (some ⟨p, 0, none⟩)] 51 (0, 0)) := by rw [hW]; exact blk_alloc (blk_new w _) _
  have hb2 : W.heap[w.heap.size + 1]? = some (.cells #[.int .i64 x.index, .int .i64 x.term, .slice VA vn vc, .slice LA ln lc, .slice DA dn dc] 27 (0, 0)) := by
    rw [hW]
    have := blk_new (w.alloc (.cells #[.pointer (some ⟨p, 0, none⟩)] 51)) (.cells #[.int .i64 x.index, .int .i64 x.term, .slice VA vn vc, .slice LA ln lc, .slice DA dn dc] 27)
    rwa [World.size_alloc] at this
  have HK := hid hk; have HB1 := hid hb1; have HB2 := hid hb2; have HW := hid hW
  have HM := hid (snmay_any p ro D W (h.all hk))
  have c1 := blk_cell hb1; have c2 := blk_cell hb2
  clear h hr hs hg hk hb1 hb2 hbig hW
  by_cases hoff : D.off = true
  · have h6 : saveP D x = (9, D) := by unfold saveP; rw [if_pos hoff]
    have h7 : snMay D = 9 := by unfold snMay; rw [if_pos hoff]
    rw [h7] at HM
    rw [h6]
    clear h6 h7
    go_enter Tryz.func22, Tryz.ntmps22
    go_wp2_with fail
    rw [← HW.out]
    refine HM.out.mono ?_
    rintro e w1 ⟨rfl, hk1⟩
    have HK1 := hid hk1
    clear hk1
    go_wp2_with fail
    go_ret
    exact ⟨rfl, H.out.nx (HK.out.trans HK1.out)⟩
  have hoff : D.off = false := by simpa using hoff
  have h7 : snMay D = 0 := by unfold snMay; rw [if_neg (by simp [hoff])]
  rw [h7] at HM
  clear h7
  by_cases hgo : goodSnap x = true
  case neg =>
    have h6 : saveP D x = (2, D) := by unfold saveP; rw [if_neg (by simp [hoff]), if_pos (.inl (by simpa using hgo))]
    rw [h6]
    have HGO := hid (show goodSnap x = false by simpa using hgo)
    clear h6 hgo
    go_enter Tryz.func22, Tryz.ntmps22
    go_wp2_with fail
    rw [← HW.out]
    refine HM.out.mono ?_
    rintro e w1 ⟨rfl, hk1⟩
    have HK1 := hid (HK.out.trans hk1)
    have d1 := blk_cell (hk1.heap HB1.out trivial); have d2 := blk_cell (hk1.heap HB2.out trivial)
    have HGS := hid (goodsnap_any x VA LA DA vn vc ln lc dn dc HBG.out.1 HBG.out.2 w1 ((HS.out.snp).step HK1.out))
    rw [HGO.out] at HGS
    clear hk1
    go_wp2_with fail
    refine HGS.out.mono ?_
    rintro e w2 ⟨rfl, hk2⟩
    have HK2 := hid (HK1.out.trans hk2)
    clear hk2
    go_wp2_with fail
    go_ret
    exact ⟨rfl, H.out.nx HK2.out⟩
  by_cases hi : 999999999 < x.index
  · have h6 : saveP D x = (2, D) := by unfold saveP; rw [if_neg (by simp [hoff]), if_pos (.inr hi)]
    have di : decide (999999999 < x.index) = true := decide_eq_true hi
    rw [h6]
    have HGO := hid hgo
    clear h6 hgo
    go_enter Tryz.func22, Tryz.ntmps22
    go_wp2_with fail
    rw [← HW.out]
    refine HM.out.mono ?_
    rintro e w1 ⟨rfl, hk1⟩
    have HK1 := hid (HK.out.trans hk1)
    have e2 := hk1.heap HB2.out trivial
    have d1 := blk_cell (hk1.heap HB1.out trivial); have d2 := blk_cell e2
    have HE2 := hid e2
    have HGS := hid (goodsnap_any x VA LA DA vn vc ln lc dn dc HBG.out.1 HBG.out.2 w1 ((HS.out.snp).step HK1.out))
    rw [HGO.out] at HGS
    clear hk1 e2
    go_wp2_with fail
    refine HGS.out.mono ?_
    rintro e w2 ⟨rfl, hk2⟩
    have HK2 := hid (HK1.out.trans hk2)
    have e2 := blk_cell (hk2.heap HE2.out trivial)
    clear hk2
    go_wp2_with fail
    go_ret
    exact ⟨rfl, H.out.nx HK2.out⟩
  have di : decide (999999999 < x.index) = false := decide_eq_false hi
  have HGO := hid hgo; have HOFF := hid hoff; have HI := hid hi
  clear hgo
  go_enter Tryz.func22, Tryz.ntmps22
  go_wp2_with fail
  rw [← HW.out]
  refine HM.out.mono ?_
  rintro e w1 ⟨rfl, hk1⟩
  have HK1 := hid (HK.out.trans hk1)
  have e2 := hk1.heap HB2.out trivial
  have e1 := hk1.heap HB1.out trivial
  have d1 := blk_cell e1; have d2 := blk_cell e2
  have HE2 := hid e2; have HE1 := hid e1
  have HGS := hid (goodsnap_any x VA LA DA vn vc ln lc dn dc HBG.out.1 HBG.out.2 w1 ((HS.out.snp).step HK1.out))
  rw [HGO.out] at HGS
  clear hk1 e2 e1
  go_wp2_with fail
  refine HGS.out.mono ?_
  rintro e w2 ⟨rfl, hk2⟩
  have HK2 := hid (HK1.out.trans hk2)
  have f2 := hk2.heap HE2.out trivial
  have f1 := hk2.heap HE1.out trivial
  have g1' := blk_cell f1; have g2' := blk_cell f2
  have HF1 := hid f1; have HF2 := hid f2
  clear hk2 f1 f2
  go_wp2_with fail
  have b3 := blk_new w2 (.cells ((saveFs p w.heap.size (w.heap.size + 1)).map fv).toArray 95)
  have k3 := Kp.al w2 (.cells ((saveFs p w.heap.size (w.heap.size + 1)).map fv).toArray 95)
  have hrow : Foot (fun b => ro b = .none) (Sl (some ⟨w2.heap.size, 0, none⟩) 5 5 1 ((saveFs p w.heap.size (w.heap.size + 1)).map fv)) (w2.alloc (.cells ((saveFs p w.heap.size (w.heap.size + 1)).map fv).toArray 95)) := fun u hu => by
    refine ⟨rfl, Nat.le_refl _, fun _ => ⟨_, 0, rfl, fun j v hj => ?_⟩⟩
    rw [Nat.zero_add, blk_cell (hu.heap b3 (H.out.rnew _ HK2.out.size)), ← Array.getElem?_toList]
    exact hj
  have r1 := H.out.rnew w.heap.size (Nat.le_refl _)
  have r2 := H.out.rnew (w.heap.size + 1) (by omega)
  have hx1 := HS.out.z.i1.1
  refine (saves_any w.heap.size (w.heap.size + 1) p ro D HOFF.out hM5 HR.out x VA LA DA vn vc ln lc dn dc HGO.out (by have := HI.out; omega) hx1 _ 5 _ ((HG.out.all HK2.out).all k3) g1 g2 ((H.out.all HK2.out).all k3) (k3.heap HF1.out trivial) (k3.heap HF2.out trivial) r1 r2 ((HS.out.step (HK2.out.trans k3).all)) hrow).mono ?_
  rintro e w4 ⟨r, rfl, rfl, hnx⟩
  have HNX := hid (Nx.pre (HK2.out.trans k3) hnx)
  clear hnx b3 k3 hrow r1 r2 hx1
  go_wp2_with fail
  go_ret
  exact ⟨rfl, HNX.out⟩
end Go.Proofs.YtbkhademplgicaaGreatDoor

namespace Go.Proofs.YtbkhademplgicaaGreatDoor
open Go.RowKit
set_option linter.unusedVariables false
set_option linter.unusedSimpArgs false
/-- What Load finds among the numbers. -/
def loadL (D : DS) : List Int → Option Sn
  | [] => none
  | n :: l => match joinP (readB D (snName n)) with
    | some s => if s.index = n then some s else loadL D l
    | none => loadL D l
def loadP (D : DS) : Option Sn := if D.off then none else loadL D (idxP D)
def LoadR (D : DS) (w : World) (e : Ending) (w' : World) : Prop := Kp All w w' ∧ match loadP D with
  | some x => ∃ VA LA DA vc lc dc, e = .returned (.tuple #[.agg #[.int .i64 x.index, .int .i64 x.term, .slice VA x.V.length vc, .slice LA x.L.length lc, .slice DA x.data.length dc], .bool true, .int .i64 0]) ∧ SnpS (fun i => w.heap.size < i) x VA LA DA x.V.length vc x.L.length lc x.data.length dc w'
  | none => e = .returned (.tuple #[.agg #[.int .i64 0, .int .i64 0, .slice none 0 0, .slice none 0 0, .slice none 0 0], .bool false, .int .i64 (if D.off then 9 else 0)])
set_option maxRecDepth 100000 in
set_option maxHeartbeats 1000000 in
theorem load_any (p : Nat) (ro : Nat → Role) (D : DS) (hnm : ∀ x ∈ D.F, x.1.size ≤ 1000) (hfl : D.F.length ≤ 1000000) (hsz : ∀ n ∈ idxP D, (readB D (snName n)).length ≤ 4000000) (w : World) (hg : Gl w) (h : Dk w p ro D) :
    Calls Tryz.prog 27 #[.pointer (some ⟨p, 0, none⟩)] w (LoadR D w) := by
  have k1 := Kp.al w (Obj.cells #[.int .i64 0, .int .i64 0, .slice none 0 0, .slice none 0 0, .slice none 0 0] 27)
  have b1 := blk_new w (Obj.cells #[.int .i64 0, .int .i64 0, .slice none 0 0, .slice none 0 0, .slice none 0 0] 27)
  obtain ⟨w1, hw1⟩ : ∃ w1, w1 = w.alloc (Obj.cells #[.int .i64 0, .int .i64 0, .slice none 0 0, .slice none 0 0, .slice none 0 0] 27) := ⟨_, rfl⟩
  have hz1 : w1.heap.size = w.heap.size + 1 := by rw [hw1, World.size_alloc]
  rw [← hw1] at k1 b1
  have HW1 := hid hw1; have K1 := hid k1; have B1 := hid b1; have Z1 := hid hz1
  have H := hid (h.all k1); have HG := hid (hg.all k1); have HM := hid (snmay_any p ro D w1 (h.all k1))
  have HNM := hid hnm; have HFL := hid hfl; have HSZ := hid hsz
  clear h hg hw1 k1 b1 hz1 hnm hfl hsz
  by_cases hoff : D.off = true
  · have h7 : snMay D = 9 := by unfold snMay; rw [if_pos hoff]
    have h8 : loadP D = none := by unfold loadP; rw [if_pos hoff]
    have H8 := hid h8; have HO := hid hoff
    rw [h7] at HM
    clear h7 h8 hoff
    go_enter Tryz.func27, Tryz.ntmps27
    go_wp2_with fail
    rw [← HW1.out]
    refine HM.out.mono ?_
    rintro e w2 ⟨rfl, hk2⟩
    have hb2 := hk2.heap B1.out trivial
    have c2 := blk_cell hb2; have f2 := blk_free hb2
    have HB2 := hid hb2; have HK2 := hid (K1.out.trans hk2)
    clear hb2 hk2
    go_wp2_with fail
    have cF := blk_cell (set5 (v0 := .int .i64 0) (v1 := .int .i64 0) (v2 := .slice none 0 0) (v3 := .slice none 0 0) (v4 := .slice none 0 0) HB2.out)
    refine bodyPost_ret (v := .tuple #[.agg #[.int .i64 0, .int .i64 0, .slice none 0 0, .slice none 0 0, .slice none 0 0], .bool false, .int .i64 9]) (by simp [results, Tryz.results27, go_sem, cF]) rfl ⟨HK2.out.then kp5 (fun i hi _ e => by omega), ?_⟩
    rw [H8.out, if_pos HO.out]
  have hoff : D.off = false := by simpa using hoff
  have h7 : snMay D = 0 := by unfold snMay; rw [if_neg (by simp [hoff])]
  rw [h7] at HM
  have HO := hid hoff
  have H8 := hid (show loadP D = loadL D (idxP D) by unfold loadP; rw [if_neg (by simp [hoff])])
  clear h7 hoff
  go_enter Tryz.func27, Tryz.ntmps27
  go_wp2_with fail
  rw [← HW1.out]
  refine HM.out.mono ?_
  rintro e w2 ⟨rfl, hk2⟩
  have HK2 := hid hk2
  clear hk2
  go_wp2_with fail
  refine (indexes_any p ro D HO.out HNM.out HFL.out w2 (HG.out.all HK2.out) (H.out.all HK2.out)).mono ?_
  rintro e w3 ⟨v8, L, rfl, hp, hsd, ho8, hk8⟩
  have hL : idxP D = L := (idxP_eq hp hsd).symm
  rw [hL] at H8
  clear hp hsd
  obtain ⟨A8, c8, rfl⟩ := own_shape ho8
  obtain ⟨q, hq⟩ : ∃ q, L.length = q := ⟨_, rfl⟩
  have HF := hid (own_footA ho8)
  have HK3 := hid (HK2.out.trans hk8); have HQ := hid hq; have HL := hid hL
  have hq6 : q ≤ 1000000 := by
    rw [← hq, ← hL]
    exact Nat.le_trans (idxP_len D) HFL.out
  rw [hq] at HF ⊢
  clear ho8 hk8 hq hL
  go_wp2_with fail
  go_loopw [21] (fun i wr => ∃ k : Nat, k ≤ q ∧ i = .int .i64 k ∧ Hid (Kp All w3 wr) ∧ Hid (loadL D L = loadL D (L.drop k))) (fun i _ => q - (intOf i).toNat)
  case atStart => exact ⟨0, Nat.zero_le _, rfl, hid (Kp.refl _ _), hid rfl⟩
  case round =>
    obtain ⟨k, hk, rfl, hK, hA⟩ := hrel
    by_cases hlt : k < q
    · have hb0 : decide ((k : Int) < (q : Int)) = true := decide_eq_true (by omega)
      obtain ⟨n, hy⟩ : ∃ n, L[k]? = some n := ⟨_, List.getElem?_eq_getElem (by rw [HQ.out]; exact hlt)⟩
      obtain ⟨b, o, rfl, hrd⟩ := (HF.out.step hK.out).now.2.2 (by omega)
      have hc := hrd k (.int .i64 n) (by rw [ivs, List.getElem?_map, hy]; rfl)
      have hnL : n ∈ idxP D := by rw [HL.out]; exact List.mem_of_getElem? hy
      have hn := idxP_mem hnL
      have HDR := hid (drop_cons hy)
      have HNB := hid (show (readB D (snName n)).length ≤ 4000000 from HSZ.out n hnL)
      have HKR := hid (HK3.out.trans hK.out)
      have HNA := hid (name_any n (by omega) (by omega) wr (HG.out.all HKR.out))
      have i0 : (0 : Int) ≤ (k : Int) := by omega
      have i1 : (k : Int) < (q : Int) := by omega
      obtain ⟨nb, hnb⟩ : ∃ nb, readB D (snName n) = nb := ⟨_, rfl⟩
      obtain ⟨er, her⟩ : ∃ er, readErr D (snName n) = er := ⟨_, rfl⟩
      rw [hnb] at HNB
      have HBE := hid hnb; have HER := hid her
      clear hy hrd hn hnL hnb her
      go_wp2_with fail
      refine HNA.out.mono ?_
      rintro e w4 ⟨rfl, hk4⟩
      have HK4 := hid (hK.out.trans hk4); have HKA := hid (HKR.out.trans hk4)
      clear hk4
      go_wp2_with fail
      refine (read_any p ro D (snName n) w4 (H.out.all HKA.out)).mono ?_
      rw [HBE.out, HER.out]
      rintro e w5 ⟨v5, rfl, ho5, hk5⟩
      obtain ⟨A5, c5, rfl⟩ := own_shape ho5
      obtain ⟨m5, hm5⟩ : ∃ m5, nb.length = m5 := ⟨_, rfl⟩
      have hf5 := own_footA ho5
      have HK5 := hid (HK4.out.trans hk5); have HKB := hid (HKA.out.trans hk5); have HM5 := hid hm5
      have HN5 := hid (show m5 ≤ 4000000 by rw [← hm5]; exact HNB.out)
      have HF5 := hid hf5
      rw [hm5] at HF5 ⊢
      clear ho5 hk5 hm5 hf5
      go_wp2_with fail
      refine (join_any A5 m5 c5 nb HM5.out HN5.out w5 HF5.out).mono ?_
      rintro e w6 ⟨hk6, hj6⟩
      have HK6 := hid (HK5.out.trans hk6); have HKC := hid (HKB.out.trans hk6)
      have HSZ6 := hid (HKB.out.size)
      clear hk6
      cases hjp : joinP nb with
      | none =>
        rw [hjp] at hj6
        dsimp only at hj6
        subst hj6
        have h9 := hA.out
        rw [HDR.out, loadL, HBE.out, hjp] at h9
        dsimp only at h9
        have H9 := hid h9
        clear hjp h9
        go_wp2_with fail
        refine ⟨⟨k + 1, by omega, by go_num, hid (HK6.out.alloc _), hid H9.out⟩, by simp [intOf]; omega⟩
      | some x =>
        rw [hjp] at hj6
        dsimp only at hj6
        obtain ⟨VA, LA, DA, vc, lc, dc, rfl, hsx⟩ := hj6
        have h9 := hA.out
        rw [HDR.out, loadL, HBE.out, hjp] at h9
        dsimp only at h9
        have H9 := hid h9
        clear hjp h9
        obtain ⟨vn, hvn⟩ : ∃ vn, x.V.length = vn := ⟨_, rfl⟩
        obtain ⟨ln, hln⟩ : ∃ ln, x.L.length = ln := ⟨_, rfl⟩
        obtain ⟨dn, hdn⟩ : ∃ dn, x.data.length = dn := ⟨_, rfl⟩
        rw [hvn, hln, hdn] at hsx ⊢
        have HVN := hid hvn; have HLN := hid hln; have HDN := hid hdn; have HSX := hid hsx
        clear hvn hln hdn hsx
        by_cases hxn : x.index = n
        · have d1 : (x.index == n) = true := by simp [hxn]
          have HXN := hid hxn
          have hb7 := blk_alloc (HKC.out.heap B1.out trivial) (.cells #[.int .i64 x.index, .int .i64 x.term, .slice VA vn vc, .slice LA ln lc, .slice DA dn dc] 27)
          have c7 := blk_cell hb7; have f7 := blk_free hb7
          have HB7 := hid hb7
          have h10 : loadP D = some x := by rw [H8.out, H9.out, if_pos hxn]
          have H10 := hid h10
          clear hxn hb7 h10
          go_wp2_with fail
          have cF := blk_cell (set5 (v0 := .int .i64 x.index) (v1 := .int .i64 x.term) (v2 := .slice VA vn vc) (v3 := .slice LA ln lc) (v4 := .slice DA dn dc) HB7.out)
          refine bodyPost_ret (v := .tuple #[.agg #[.int .i64 x.index, .int .i64 x.term, .slice VA vn vc, .slice LA ln lc, .slice DA dn dc], .bool true, .int .i64 0]) (by simp [results, Tryz.results27, go_sem, cF]) rfl ⟨((K1.out.trans HKC.out).alloc _).then kp5 (fun i hi _ e => by omega), ?_⟩
          rw [H10.out]
          dsimp only
          rw [HVN.out, HLN.out, HDN.out]
          refine ⟨VA, LA, DA, vc, lc, dc, rfl, ?_⟩
          have h9 := HSX.out.step (Kp.al w6 (.cells #[.int .i64 x.index, .int .i64 x.term, .slice VA vn vc, .slice LA ln lc, .slice DA dn dc] 27)).all
          have hz := HSZ6.out
          have hz1 := Z1.out
          exact (h9.mono (T := fun i => w.heap.size < i) (fun i hi => by show w.heap.size < i; omega)).step ((kp5 (w := w6.alloc (.cells #[.int .i64 x.index, .int .i64 x.term, .slice VA vn vc, .slice LA ln lc, .slice DA dn dc] 27)) (b := w.heap.size)).mono fun i _ hi => by show i ≠ w.heap.size; omega)
        · have d1 : (x.index == n) = false := by simpa using hxn
          have h10 := H9.out
          rw [if_neg hxn] at h10
          have H10 := hid h10
          clear hxn h10
          go_wp2_with fail
          refine ⟨⟨k + 1, by omega, by go_num, hid (HK6.out.alloc _), hid H10.out⟩, by simp [intOf]; omega⟩
    · have hb0 : decide ((k : Int) < (q : Int)) = false := decide_eq_false (by omega)
      obtain rfl : k = q := by omega
      have h6 : loadP D = none := by
        rw [H8.out, hA.out, List.drop_of_length_le (by rw [HQ.out]; exact Nat.le_refl _)]; rfl
      have H6 := hid h6
      have hkk := HK3.out.trans hK.out
      have hb2 := hkk.heap B1.out trivial
      have c2 := blk_cell hb2; have f2 := blk_free hb2
      have HB2 := hid hb2; have HKK := hid (K1.out.trans hkk)
      clear h6 hkk hb2
      go_wp2_with fail
      have cF := blk_cell (set5 (v0 := .int .i64 0) (v1 := .int .i64 0) (v2 := .slice none 0 0) (v3 := .slice none 0 0) (v4 := .slice none 0 0) HB2.out)
      refine bodyPost_ret (v := .tuple #[.agg #[.int .i64 0, .int .i64 0, .slice none 0 0, .slice none 0 0, .slice none 0 0], .bool false, .int .i64 0]) (by simp [results, Tryz.results27, go_sem, cF]) rfl ⟨HKK.out.then kp5 (fun i hi _ e => by omega), ?_⟩
      rw [H6.out, if_neg (by rw [HO.out]; simp)]
end Go.Proofs.YtbkhademplgicaaGreatDoor
