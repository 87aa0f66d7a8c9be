/- The disk: Sync, Used, Read: walked once each. No condition on the disk but that it lies as Dk says. -/
import Derived.Test.YtdlbccjimdghkaaDI
namespace Go.Proofs.Ytdlbccjimdghkaa
open Go.RowKit
set_option linter.unusedVariables false
theorem Op1.num {w : World} {ro : Nat → Role} {p : Nat} {v : Int} {D' : DS} {e : Ending} {w' : World} (h : Op1 w ro p v D' e w') : ∃ n, e = .returned (.int .i64 n) := ⟨_, h.1⟩
theorem Op1.pre {w w1 : World} {ro : Nat → Role} {p : Nat} {v : Int} {D' : DS} {e : Ending} {w' : World} (k : Kp (fun z => ro z = .none) w w1) (h : Op1 w1 ro p v D' e w') : Op1 w ro p v D' e w' := ⟨h.1, Nx.trans ⟨ro, fun _ _ h => h, k, h.2⟩⟩

theorem Nx.kp {w w' : World} {ro : Nat → Role} {p : Nat} {D' : DS} (h : Nx w ro p D' w') : Kp (fun b => ro b = .none) w w' := by
  obtain ⟨_, _, _, h⟩ := h
  exact h

set_option maxRecDepth 100000 in
theorem sync1_any (p : Nat) (ro : Nat → Role) (D : DS) (hoff : D.off = false) (db : Nat) (w : World) (h : Dk w p ro D) (b5 : w.heap[db]? = some (.cells #[.pointer (some ⟨p, 0, none⟩)] 27 (0, 0))) (hrdb : ro db = .none) :
    Calls Try.prog 37 #[.pointer (some ⟨db, 0, none⟩)] w (Op1 w ro p 0 (D.settle (pend D.B))) := by
  have H := hid h
  have c5 := blk_cell b5
  have B5 := hid b5
  have hple : pend D.B ≤ 9223372036854775807 := by obtain ⟨m, fp, bv, BV, h0⟩ := h; have := h0.pend_le; omega
  have HO := hid hoff
  clear h b5 hoff
  go_enter Try.func37, Try.ntmps37
  go_wp2_with fail
  have hpd : (if D.off then 0 else pend D.B) = pend D.B := by rw [HO.out]; rfl
  have HPD := hid hpd
  clear hpd
  go_region_held3 (fun w' => ∀ i, w'.cell? ⟨db, i, none⟩ = (#[.pointer (some ⟨p, 0, none⟩)] : Array Value)[i]?)
    (first | exact c5 | exact c6 | exact c7)
    ((first | (go_at_call 16; refine (pend_any p ro D _ (H.out.all ((Kp.refl All w).drew))).mono ?_; rintro e w1 ⟨rfl, hk⟩; rw [HPD.out]; have c6 := blk_cell (hk.heap (by exact B5.out) trivial); have hd1 := H.out.all ((Kp.refl All w).drew.trans hk); have HD1 := hid hd1; have HK := hid hk; clear hk hd1) | (go_at_call 38; refine (settle_any p ro D (pend D.B) hple w1 HD1.out).mono ?_; rintro e w2 ⟨rfl, hn⟩; have c7 := blk_cell (hn.kp.heap ((HK.out).heap (by exact B5.out) trivial) hrdb); have HN := hid hn; clear hn)))
  go_wp2_with fail
  go_ret
  exact ⟨rfl, Nx.pre ((Kp.refl All w).drew.trans HK.out) HN.out⟩

def syncErr (D : DS) : Int := if D.off then 9 else if D.fit then 0 else 9
def syncD (D : DS) : DS := if D.off then D else if D.fit then D.begun.settle (pend D.B) else D.begun
theorem en37 : Enters Try.prog 37 := enters_of Try.func37 (by kernel_rfl) rfl
theorem Dk0.rnew {w : World} {p : Nat} {ro : Nat → Role} {D : DS} {m : Nat} {fp : Nm → Nat} {bv : Value} {BV : List (Nm × By × Value)} (h : Dk0 w p ro D m fp bv BV) : ∀ z, w.heap.size ≤ z → ro z = .none := fun z hz => by
  by_cases e : ro z = .none
  · exact e
  · exact absurd (h.lt z e) (by omega)

set_option maxRecDepth 100000 in
theorem sync_any (p : Nat) (ro : Nat → Role) (D : DS) (hok : D.Ok) (w : World) (h : Dk w p ro D) :
    Calls Try.prog 15 #[.pointer (some ⟨p, 0, none⟩)] w (Op1 w ro p (syncErr D) (syncD D)) := by
  have HD := hid h
  obtain ⟨m, fp, bv, BV, h⟩ := h
  have H := hid h
  have hp := blk_lt h.cell
  have b1 := h.cell
  obtain ⟨bo, hbo⟩ : ∃ x, D.off = x := ⟨_, rfl⟩
  have HBO := hid hbo
  have hmf : ∀ (fn : Fn) (first cap : Array Value) (w : World), (Instr.makeFunc fn first cap).run Try.prog w = .ok (.func fn first cap) w := fun _ _ _ _ => rfl
  clear h hbo
  cases bo
  · have B1 := hid b1
    clear b1
    go_enter Try.func15, Try.ntmps15
    go_wp2_with fail
    refine (may_any p m D _ bv _ (by exact blk_alloc B1.out _)).mono ?_
    rintro e w1 ⟨rfl, rfl⟩
    rw [show mayErr D = 0 from by rw [mayErr, HBO.out]; rfl]
    go_wp2_with fail
    have hk3 : Kp All w (w.alloc (.cells #[.pointer (some ⟨p, 0, none⟩)] 27)) := Kp.al _ _
    have H3 := H.out.kept hk3 (fun _ _ => trivial)
    have hc : D.fit = true → ∀ w1, Dk0 w1 p ro D.begun m fp bv BV → Kp (fun b => b ≠ p) (w.alloc (.cells #[.pointer (some ⟨p, 0, none⟩)] 27)) w1 → Calls Try.prog 37 #[.pointer (some ⟨w.heap.size, 0, none⟩)] w1 (Op1 w ro p 0 (D.begun.settle (pend D.B))) := by
      intro hfit w1 h1 k1
      obtain ⟨eF, eB, eb, eo⟩ := begun_fit hfit
      have kk : Kp (fun z => ro z = .none) w w1 := hk3.all.trans (k1.mono fun z _ hz => ndisk H.out.rp z hz)
      have := (sync1_any p ro D.begun (by rw [eo]; exact HBO.out) w.heap.size w1 ⟨m, fp, bv, BV, h1⟩ (k1.heap (blk_new w _) (by omega)) (H.out.rnew _ (Nat.le_refl _)))
      rw [eB] at this
      exact this.mono fun e w' h => h.pre kk
    refine (does_any p ro D hok.o0 hok.o1 hok.f1 _ m fp bv BV H3 37 _ en37 (Op1 w ro p 0 (D.begun.settle (pend D.B))) (fun _ _ h => h.num) hc).mono ?_
    rintro e w1 ⟨hn1, hn2⟩
    cases hfit : D.fit with
    | false =>
      obtain ⟨rfl, hnx⟩ := hn1 hfit
      have HN := hid hnx
      have HFT := hid hfit
      clear hn1 hn2 hnx hfit hc H3
      go_wp2_with fail
      go_ret
      refine ⟨?_, ?_⟩
      · rw [syncErr, HBO.out]; simp [HFT.out]
      · rw [syncD, HBO.out]
        simp only [HFT.out, Bool.false_eq_true, if_false]
        exact Nx.pre hk3 HN.out
    | true =>
      obtain ⟨rfl, hp2⟩ := hn2 hfit
      have HP2 := hid hp2
      have HFT := hid hfit
      clear hn1 hn2 hp2 hfit hc H3
      go_wp2_with fail
      go_ret
      refine ⟨?_, ?_⟩
      · rw [syncErr, HBO.out]; simp [HFT.out]
      · rw [syncD, HBO.out]
        simp only [HFT.out, if_true, Bool.false_eq_true, if_false]
        exact HP2.out
  · go_enter Try.func15, Try.ntmps15
    go_wp2_with fail
    refine (may_any p m D _ bv _ (by exact blk_alloc b1 _)).mono ?_
    rintro e w1 ⟨rfl, rfl⟩
    rw [show mayErr D = 9 from by rw [mayErr, HBO.out]; rfl]
    go_wp2_with fail
    go_ret
    exact ⟨by rw [syncErr, HBO.out]; rfl, by rw [syncD, HBO.out]; exact HD.out.nx (Kp.al _ _)⟩

set_option maxRecDepth 100000 in
theorem used_any (p : Nat) (ro : Nat → Role) (D : DS) (w : World) (h : Dk w p ro D) :
    Calls Try.prog 26 #[.pointer (some ⟨p, 0, none⟩)] w fun e w' => e = .returned (.int .i64 (if D.off then 0 else usedOf D.F D.B : Nat)) ∧ w = w' := by
  obtain ⟨m, fp, bv, BV, h⟩ := h
  have H := hid h
  have c1 := blk_cell h.cell
  unfold dcs at c1
  have hon := on_any p m D _ _ w h.cell
  have HR : Hid (∀ bo, D.off = bo → (if D.off then 0 else usedOf D.F D.B) = (if bo then 0 else usedOf D.F D.B)) := hid fun bo h => by rw [h]
  obtain ⟨u, hu⟩ : ∃ u, usedOf D.F D.B = u := ⟨_, rfl⟩
  rw [hu] at c1
  obtain ⟨r, hr⟩ : ∃ r, (if D.off then 0 else usedOf D.F D.B) = r := ⟨_, rfl⟩
  rw [hr]
  rw [hu] at hr
  obtain ⟨bo, hbo⟩ : ∃ x, D.off = x := ⟨_, rfl⟩
  rw [hbo] at hon hr c1
  have HON := hid hon
  have HBR := hid hr
  clear h hbo hon hr HR hu
  cases bo
  · go_enter Try.func26, Try.ntmps26
    go_wp2_with fail
    refine HON.out.mono ?_
    rintro e w1 ⟨rfl, rfl⟩
    go_wp2_with fail
    go_ret
    exact ⟨by have := HBR.out; simp only [Bool.false_eq_true, if_false] at this; rw [← this]; rfl, rfl⟩
  · go_enter Try.func26, Try.ntmps26
    go_wp2_with fail
    refine HON.out.mono ?_
    rintro e w1 ⟨rfl, rfl⟩
    go_wp2_with fail
    go_ret
    exact ⟨by have := HBR.out; simp only [if_true] at this; rw [← this]; rfl, rfl⟩
end Go.Proofs.Ytdlbccjimdghkaa
