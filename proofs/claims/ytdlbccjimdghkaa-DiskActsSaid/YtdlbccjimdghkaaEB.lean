/- The disk: Create of any name: walked once. No condition on the disk but that it lies as Dk says. -/
import Derived.Test.YtdlbccjimdghkaaEA
namespace Go.Proofs.Ytdlbccjimdghkaa
open Go.RowKit
set_option linter.unusedVariables false
def creErr1 (D : DS) (n : Nm) : Int := match aget D.F n with
  | some _ => 0
  | none => createErr1 D
def creD1 (D : DS) (n : Nm) : DS := match aget D.F n with
  | some _ => (D.gone n).add n
  | none => createD1 D n
def creErr (D : DS) (n : Nm) : Int := if D.off then 9 else if goodB n then (if D.fit then creErr1 D n else 9) else 3
def creD (D : DS) (n : Nm) : DS := if D.off then D else if goodB n then (if D.fit then creD1 D.begun n else D.begun) else D
theorem create1_any (p : Nat) (ro : Nat → Role) (D : DS) (n : Nm) (db nb : Nat) (w : World) (h : Dk w p ro D) (hbB : D.B.length ≤ 1073741824)
    (b4 : w.heap[nb]? = some (.cells #[.string n] 9 (0, 0))) (b5 : w.heap[db]? = some (.cells #[.pointer (some ⟨p, 0, none⟩)] 27 (0, 0))) (r4 : ro nb = .none) (r5 : ro db = .none) :
    Calls Try.prog 35 #[.pointer (some ⟨db, 0, none⟩), .pointer (some ⟨nb, 0, none⟩)] w (Op1 w ro p (creErr1 D n) (creD1 D n)) := by
  unfold creErr1 creD1
  cases hn : aget D.F n with
  | none => exact create1_new p ro D n db nb w h hn b4 b5 r4 r5
  | some s => exact create1_old p ro D n s db nb hbB w h hn b4 b5 r4 r5
set_option maxRecDepth 100000 in
set_option maxHeartbeats 1000000 in
theorem create_any (p : Nat) (ro : Nat → Role) (D : DS) (hok : D.Ok) (n : Nm) (hsz : n.size ≤ 9223372036854775806) (w : World) (h : Dk w p ro D) :
    Calls Try.prog 14 #[.pointer (some ⟨p, 0, none⟩), .string n] w (Op1 w ro p (creErr D n) (creD D n)) := by
  have HD := hid h
  obtain ⟨m, fp, bv, BV, h⟩ := h
  have H := hid h
  have hp := blk_lt h.cell
  have B1 := hid h.cell
  obtain ⟨bo, hbo⟩ : ∃ x, D.off = x := ⟨_, rfl⟩
  have HBO := hid hbo
  have hmf : ∀ (fn : Fn) (first cap : Array Value) (w : World), (Instr.makeFunc fn first cap).run Try.prog w = .ok (.func fn first cap) w := fun _ _ _ _ => rfl
  clear h hbo
  cases bo
  · obtain ⟨gb, hgb⟩ : ∃ x, goodB n = x := ⟨_, rfl⟩
    have HG := hid hgb
    clear hgb
    cases gb
    · go_enter Try.func14, Try.ntmps14
      go_wp2_with fail
      refine (may_any p m D _ bv _ (by exact blk_alloc (blk_alloc B1.out _) _)).mono ?_
      rintro e w1 ⟨rfl, rfl⟩
      rw [show mayErr D = 0 from by rw [mayErr, HBO.out]; rfl]
      go_wp2_with fail
      refine (good_any n hsz _).mono ?_
      rintro e w1 ⟨rfl, rfl⟩
      rw [HG.out]
      go_wp2_with fail
      go_ret
      exact ⟨by rw [creErr, HBO.out, HG.out]; rfl, by rw [creD, HBO.out, HG.out]; exact HD.out.nx ((Kp.al _ _).alloc _)⟩
    · go_enter Try.func14, Try.ntmps14
      go_wp2_with fail
      refine (may_any p m D _ bv _ (by exact blk_alloc (blk_alloc B1.out _) _)).mono ?_
      rintro e w1 ⟨rfl, rfl⟩
      rw [show mayErr D = 0 from by rw [mayErr, HBO.out]; rfl]
      go_wp2_with fail
      refine (good_any n hsz _).mono ?_
      rintro e w1 ⟨rfl, rfl⟩
      rw [HG.out]
      go_wp2_with fail
      have hk3 : Kp All w ((w.alloc (.cells #[.pointer (some ⟨p, 0, none⟩)] 27)).alloc (.cells #[.string n] 9)) := (Kp.al _ _).alloc _
      have H3 := H.out.kept hk3 (fun _ _ => trivial)
      have hc : D.fit = true → ∀ w1, Dk0 w1 p ro D.begun m fp bv BV → Kp (fun b => b ≠ p) ((w.alloc (.cells #[.pointer (some ⟨p, 0, none⟩)] 27)).alloc (.cells #[.string n] 9)) w1 → Calls Try.prog 35 #[.pointer (some ⟨w.heap.size, 0, none⟩), .pointer (some ⟨w.heap.size + 1, 0, none⟩)] w1 (Op1 w ro p (creErr1 D.begun n) (creD1 D.begun n)) := by
        intro hfit w1 h1 k1
        obtain ⟨eF, eB, eb, eo⟩ := begun_fit hfit
        have kk : Kp (fun z => ro z = .none) w w1 := hk3.all.trans (k1.mono fun z _ hz => ndisk H.out.rp z hz)
        have x1 := blk_new w (.cells #[.pointer (some ⟨p, 0, none⟩)] 27)
        have x2 := blk_new (w.alloc (.cells #[.pointer (some ⟨p, 0, none⟩)] 27)) (.cells #[.string n] 9)
        rw [World.size_alloc] at x2
        have := (create1_any p ro D.begun n w.heap.size (w.heap.size + 1) w1 ⟨m, fp, bv, BV, h1⟩ (by rw [eB]; exact hok.bl) (k1.heap x2 (by omega)) (k1.heap (blk_alloc x1 _) (by omega)) (H.out.rnew _ (by omega)) (H.out.rnew _ (by omega)))
        exact this.mono fun e w' h => h.pre kk
      refine (does_any p ro D hok.o0 hok.o1 hok.f1 _ m fp bv BV H3 35 _ en35 (Op1 w ro p (creErr1 D.begun n) (creD1 D.begun n)) (fun _ _ h => h.num) hc).mono ?_
      rintro e w1 ⟨hn1, hn2⟩
      cases hfit : D.fit with
      | false =>
        obtain ⟨rfl, hnx⟩ := hn1 hfit
        have HNX := hid hnx
        have HFT := hid hfit
        clear hn1 hn2 hnx hfit hc H3
        go_wp2_with fail
        go_ret
        refine ⟨?_, ?_⟩
        · rw [creErr, HBO.out, HG.out]; simp [HFT.out]
        · rw [creD, HBO.out, HG.out]
          simp only [HFT.out, Bool.false_eq_true, if_false, if_true]
          exact Nx.pre hk3 HNX.out
      | true =>
        obtain ⟨rfl, hp2⟩ := hn2 hfit
        obtain ⟨eF, eB, eb, eo⟩ := begun_fit hfit
        have HP2 := hid hp2
        have HFT := hid hfit
        have HE : Hid (creErr1 D.begun n = creErr1 D n) := hid (by unfold creErr1 createErr1; rw [eF, eB, eb])
        clear hn1 hn2 hp2 hfit hc H3 eF eB eb eo
        go_wp2_with fail
        go_ret
        refine ⟨?_, ?_⟩
        · rw [creErr, HBO.out, HG.out]; simp [HFT.out, HE.out]
        · rw [creD, HBO.out, HG.out]
          simp only [HFT.out, if_true, Bool.false_eq_true, if_false]
          exact HP2.out
  · go_enter Try.func14, Try.ntmps14
    go_wp2_with fail
    refine (may_any p m D _ bv _ (by exact blk_alloc (blk_alloc B1.out _) _)).mono ?_
    rintro e w1 ⟨rfl, rfl⟩
    rw [show mayErr D = 9 from by rw [mayErr, HBO.out]; rfl]
    go_wp2_with fail
    go_ret
    exact ⟨by rw [creErr, HBO.out]; rfl, by rw [creD, HBO.out]; exact HD.out.nx ((Kp.al _ _).alloc _)⟩

end Go.Proofs.Ytdlbccjimdghkaa
