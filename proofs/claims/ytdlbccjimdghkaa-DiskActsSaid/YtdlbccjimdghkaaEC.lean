/- The disk: Arm, Ops, Remove: walked once each. No condition on the disk but that it lies as Dk says. -/
import Derived.Test.YtdlbccjimdghkaaEB
namespace Go.Proofs.Ytdlbccjimdghkaa
open Go.RowKit
set_option linter.unusedVariables false
def armErr (D : DS) : Int := if D.off then 9 else 0
def armD (D : DS) (n k : Int) : DS := if D.off then D else { D with fails := n, keep := k }
set_option maxRecDepth 100000 in
theorem arm_any (p : Nat) (ro : Nat → Role) (D : DS) (n k : Int) (hk : k ≤ 9223372036854775807) (w : World) (h : Dk w p ro D) :
    Calls Try.prog 21 #[.pointer (some ⟨p, 0, none⟩), .int .i64 n, .int .i64 k] w (Op1 w ro p (armErr D) (armD D n k)) := by
  have HD := hid h
  obtain ⟨m, fp, bv, BV, h⟩ := h
  have H := hid h
  have c1 := blk_cell h.cell
  have f1 := blk_free h.cell
  have B1 := hid h.cell
  unfold dcs at c1
  obtain ⟨bo, hbo⟩ : ∃ x, D.off = x := ⟨_, rfl⟩
  have HBO := hid hbo
  clear h hbo
  cases bo
  · go_enter Try.func21, Try.ntmps21
    go_wp2_with fail
    refine (may_any p m D _ bv _ B1.out).mono ?_
    rintro e w1 ⟨rfl, rfl⟩
    rw [show mayErr D = 0 from by rw [mayErr, HBO.out]; rfl]
    go_wp2_with fail
    go_ret
    have b2 := blk_set (blk_set B1.out 6 (.int .i64 n)) 7 (.int .i64 k)
    have k1 : Kp (fun b => b ≠ p) w ((w.setCell ⟨p, 6, none⟩ (.int .i64 n)).setCell ⟨p, 7, none⟩ (.int .i64 k)) := ((Kp.refl _ _).setOut (by simp) _).setOut (by simp) _
    refine ⟨by rw [armErr, HBO.out]; rfl, ?_⟩
    rw [armD, if_neg (by rw [HBO.out]; decide)]
    exact Nx.of ⟨m, fp, bv, BV, H.out.cellset (D' := { D with fails := n, keep := k }) (k := k1) b2 rfl rfl rfl hk⟩ (S := fun b => b ≠ p) k1 (ndisk H.out.rp)
  · go_enter Try.func21, Try.ntmps21
    go_wp2_with fail
    refine (may_any p m D _ bv _ B1.out).mono ?_
    rintro e w1 ⟨rfl, rfl⟩
    rw [show mayErr D = 9 from by rw [mayErr, HBO.out]; rfl]
    go_wp2_with fail
    go_ret
    exact ⟨by rw [armErr, HBO.out]; rfl, by rw [armD, HBO.out]; exact HD.out.nx (Kp.refl _ _)⟩
set_option maxRecDepth 100000 in
theorem ops_any (p : Nat) (ro : Nat → Role) (D : DS) (w : World) (h : Dk w p ro D) :
    Calls Try.prog 23 #[.pointer (some ⟨p, 0, none⟩)] w fun e w' => e = .returned (.int .i64 D.ops) ∧ w = w' := by
  obtain ⟨m, fp, bv, BV, h⟩ := h
  have H := hid h
  have c1 := blk_cell h.cell
  unfold dcs at c1
  clear h
  go_enter Try.func23, Try.ntmps23
  go_wp2_with fail
  refine (dmade_yes p m D _ bv w H.out.cell).mono ?_
  rintro e w1 ⟨rfl, rfl⟩
  go_wp2_with fail
  go_ret
  exact ⟨rfl, rfl⟩

set_option maxRecDepth 100000 in
theorem remove1_any (p : Nat) (ro : Nat → Role) (D : DS) (n : Nm) (db nb : Nat) (w : World) (h : Dk w p ro D) (hbB : D.B.length ≤ 1073741824)
    (b4 : w.heap[nb]? = some (.cells #[.string n] 9 (0, 0))) (b5 : w.heap[db]? = some (.cells #[.pointer (some ⟨p, 0, none⟩)] 27 (0, 0))) :
    Calls Try.prog 47 #[.pointer (some ⟨db, 0, none⟩), .pointer (some ⟨nb, 0, none⟩)] w (Op1 w ro p 0 (D.gone n)) := by
  obtain ⟨m, fp, bv, BV, h⟩ := h
  have H := hid h
  have c4 := blk_cell b4; have c5 := blk_cell b5
  clear h b4 b5
  go_enter Try.func47, Try.ntmps47
  go_wp2_with fail
  refine (gone_any p ro D n m fp bv BV hbB w H.out).mono ?_
  rintro e W ⟨rfl, ⟨bv2, BV2, hD2⟩, kG⟩
  have H2 := hid hD2; have KG := hid kG
  clear hD2 kG
  go_wp2_with fail
  go_ret
  exact ⟨rfl, ro, ⟨m, fp, bv2, BV2, H2.out⟩, fun _ _ h => h, KG.out⟩

def remErr (D : DS) (n : Nm) : Int := if D.off then 9 else match aget D.F n with
  | none => 4
  | some _ => if D.fit then 0 else 9
def remD (D : DS) (n : Nm) : DS := if D.off then D else match aget D.F n with
  | none => D
  | some _ => if D.fit then D.begun.gone n else D.begun
theorem en47 : Enters Try.prog 47 := enters_of Try.func47 (by kernel_rfl) rfl
set_option maxRecDepth 100000 in
set_option maxHeartbeats 1000000 in
theorem remove_any (p : Nat) (ro : Nat → Role) (D : DS) (hok : D.Ok) (n : Nm) (w : World) (h : Dk w p ro D) :
    Calls Try.prog 28 #[.pointer (some ⟨p, 0, none⟩), .string n] w (Op1 w ro p (remErr D n) (remD D n)) := by
  have HD := hid h
  obtain ⟨m, fp, bv, BV, h⟩ := h
  have H := hid h
  have b1 := h.cell
  have B1 := hid h.cell
  have c1 := blk_cell (blk_alloc (blk_alloc b1 (.cells #[.pointer (some ⟨p, 0, none⟩)] 27)) (.cells #[.string n] 9))
  obtain ⟨bo, hbo⟩ : ∃ x, D.off = x := ⟨_, rfl⟩
  obtain ⟨y, hy⟩ : ∃ y, aget D.F n = y := ⟨_, rfl⟩
  have HBO := hid hbo; have HY := hid hy
  have hmf : ∀ (fn : Fn) (first cap : Array Value) (w : World), (Instr.makeFunc fn first cap).run Try.prog w = .ok (.func fn first cap) w := fun _ _ _ _ => rfl
  unfold dcs at c1
  have hz : ∀ w : World, (zeroValue 62).run Try.prog w = .ok (.pointer none) w := fun w => by kernel_rfl
  have hp : p < w.heap.size := blk_lt b1
  have hk3 : Kp All w ((w.alloc (.cells #[.pointer (some ⟨p, 0, none⟩)] 27)).alloc (.cells #[.string n] 9)) := (Kp.al _ _).alloc _
  have hlk := fun k => ((h.map.all (hk3.drewN k)).lookup strKey Try.underlying54 n (.pointer none) (hz _)).2
  rw [aget_keys D.F (fun x => Value.pointer (some ⟨fp x, 0, none⟩)), hy] at hlk
  have HK3 := hid hk3
  clear h hbo hy b1 hk3
  cases bo
  · cases y with
    | none =>
      simp only [Option.map_none, Option.getD_none] at hlk
      go_enter Try.func28, Try.ntmps28
      go_wp2_with fail
      refine (may_any p m D _ bv _ (by exact blk_alloc (blk_alloc B1.out _) _)).mono ?_
      rintro e w1 ⟨rfl, rfl⟩
      rw [show mayErr D = 0 from by rw [mayErr, HBO.out]; rfl]
      go_wp2_with fail
      go_quiet (fail)
      go_wp2_with fail
      go_ret
      exact ⟨by rw [remErr, HBO.out, HY.out]; rfl, by rw [remD, HBO.out, HY.out]; exact HD.out.nx (HK3.out.drewN _)⟩
    | some s =>
      simp only [Option.map_some, Option.getD_some] at hlk
      go_enter Try.func28, Try.ntmps28
      go_wp2_with fail
      refine (may_any p m D _ bv _ (by exact blk_alloc (blk_alloc B1.out _) _)).mono ?_
      rintro e w1 ⟨rfl, rfl⟩
      rw [show mayErr D = 0 from by rw [mayErr, HBO.out]; rfl]
      go_wp2_with fail
      go_quiet (fail)
      generalize nq = qa
      go_wp2_with fail
      have hk4 : Kp All w (((w.alloc (.cells #[.pointer (some ⟨p, 0, none⟩)] 27)).alloc (.cells #[.string n] 9)).drewN qa) := HK3.out.drewN qa
      have H3 := H.out.kept hk4 (fun _ _ => trivial)
      have hc : D.fit = true → ∀ w1, Dk0 w1 p ro D.begun m fp bv BV → Kp (fun b => b ≠ p) (((w.alloc (.cells #[.pointer (some ⟨p, 0, none⟩)] 27)).alloc (.cells #[.string n] 9)).drewN qa) w1 → Calls Try.prog 47 #[.pointer (some ⟨w.heap.size, 0, none⟩), .pointer (some ⟨w.heap.size + 1, 0, none⟩)] w1 (Op1 w ro p 0 (D.begun.gone n)) := by
        intro hfit w1 h1 k1
        obtain ⟨eF, eB, eb, eo⟩ := begun_fit hfit
        have kk : Kp (fun z => ro z = .none) w w1 := hk4.all.trans (k1.mono fun z _ hz => ndisk H.out.rp z hz)
        have x1 := blk_new w (.cells #[.pointer (some ⟨p, 0, none⟩)] 27)
        have x2 := blk_new (w.alloc (.cells #[.pointer (some ⟨p, 0, none⟩)] 27)) (.cells #[.string n] 9)
        rw [World.size_alloc] at x2
        have := (remove1_any p ro D.begun n w.heap.size (w.heap.size + 1) w1 ⟨m, fp, bv, BV, h1⟩ (by rw [eB]; exact hok.bl) (k1.heap (by exact x2) (by omega)) (k1.heap (by exact blk_alloc x1 _) (by omega)))
        exact this.mono fun e w' h => h.pre kk
      refine (does_any p ro D hok.o0 hok.o1 hok.f1 _ m fp bv BV H3 47 _ en47 (Op1 w ro p 0 (D.begun.gone n)) (fun _ _ h => h.num) hc).mono ?_
      rintro e w1 ⟨hn1, hn2⟩
      cases hfit : D.fit with
      | false =>
        obtain ⟨rfl, hnx⟩ := hn1 hfit
        have HNX := hid hnx
        have HFT := hid hfit
        clear hn1 hn2 hnx hfit hc H3
        go_wp2_with fail
        go_ret
        refine ⟨?_, ?_⟩
        · rw [remErr, HBO.out, HY.out]; simp [HFT.out]
        · rw [remD, HBO.out, HY.out]
          simp only [HFT.out, Bool.false_eq_true, if_false, if_true]
          exact Nx.pre hk4 HNX.out
      | true =>
        obtain ⟨rfl, hp2⟩ := hn2 hfit
        have HP2 := hid hp2
        have HFT := hid hfit
        clear hn1 hn2 hp2 hfit hc H3
        go_wp2_with fail
        go_ret
        refine ⟨?_, ?_⟩
        · rw [remErr, HBO.out, HY.out]; simp [HFT.out]
        · rw [remD, HBO.out, HY.out]
          simp only [HFT.out, if_true, Bool.false_eq_true, if_false]
          exact HP2.out
  · go_enter Try.func28, Try.ntmps28
    go_wp2_with fail
    refine (may_any p m D _ bv _ (by exact blk_alloc (blk_alloc B1.out _) _)).mono ?_
    rintro e w1 ⟨rfl, rfl⟩
    rw [show mayErr D = 9 from by rw [mayErr, HBO.out]; rfl]
    go_wp2_with fail
    go_ret
    exact ⟨by rw [remErr, HBO.out]; rfl, by rw [remD, HBO.out]; exact HD.out.nx HK3.out⟩
end Go.Proofs.Ytdlbccjimdghkaa
