/- The disk: Crash and begin, walked once each. No condition on the disk but that it lies as Dk says. -/
import Derived.Test.YtdlbccjimdghkaaDE
namespace Go.Proofs.Ytdlbccjimdghkaa
open Go.RowKit
set_option linter.unusedVariables false
theorem Nx.trans {w w1 w2 : World} {ro : Nat → Role} {p : Nat} {D' : DS} (h : ∃ ro1, (∀ b, b < w.heap.size → ro b = .none → ro1 b = .none) ∧ Kp (fun b => ro b = .none) w w1 ∧ Nx w1 ro1 p D' w2) : Nx w ro p D' w2 := by
  obtain ⟨ro1, h1, h2, ro2, h3, h4, h5⟩ := h
  exact ⟨ro2, h3, fun b hb hn => h4 b (Nat.lt_of_lt_of_le hb h2.size) (h1 b hb hn), h2.then h5 h1⟩

theorem ndisk {ro : Nat → Role} {p : Nat} (h : ro p = .disk) : ∀ b, ro b = .none → b ≠ p := fun b hb e => by rw [e, h] at hb; cases hb

set_option maxRecDepth 100000 in
theorem crash_any (p : Nat) (ro : Nat → Role) (D : DS) (keep : Int) (hk : keep ≤ 9223372036854775807) (w : World) (h : Dk w p ro D) :
    Calls Try.prog 18 #[.pointer (some ⟨p, 0, none⟩), .int .i64 keep] w fun e w' => e = .returned (.tuple #[]) ∧ Nx w ro p (D.crash keep) w' := by
  have HD := hid h
  obtain ⟨m, fp, bv, BV, h⟩ := h
  have H := hid h
  clear h
  have hmx := fun w => run_max2 (P := Try.prog) w 3 3 .i64 keep 0
  obtain ⟨n, hn⟩ : ∃ n, keep.toNat = n := ⟨_, rfl⟩
  have hn1 : n ≤ 9223372036854775807 := by omega
  rw [show max keep 0 = (n : Int) from by omega] at hmx
  have hD : D.crash keep = { D.settle n with off := true } := by rw [DS.crash, hn]
  rw [hD]
  clear hn hD
  go_enter Try.func18, Try.ntmps18
  go_wp2_with fail
  refine (dmade_yes p m D _ bv w H.out.cell).mono ?_
  rintro e w1 ⟨rfl, rfl⟩
  go_wp2_with fail
  refine (settle_any p ro D n hn1 w HD.out).mono ?_
  rintro e w1 ⟨rfl, ro1, ⟨m1, fp1, bv1, BV1, h1⟩, h2, h3⟩
  have c1 := blk_cell h1.cell
  have f1 := blk_free h1.cell
  have B1 := hid h1.cell
  have H1 := hid h1; have H2 := hid h2; have H3 := hid h3
  unfold dcs at c1
  clear h1 h2 h3
  go_wp2_with fail
  go_end0
  have b2 := blk_set B1.out 4 (.bool true)
  have k1 : Kp (fun b => b ≠ p) w1 (w1.setCell ⟨p, 4, none⟩ (.bool true)) := (Kp.refl _ _).setOut (by simp) _
  refine ⟨rfl, Nx.trans ⟨ro1, H2.out, H3.out, Nx.of ⟨m1, fp1, bv1, BV1, H1.out.cellset (D' := { D.settle n with off := true }) k1 b2 rfl rfl rfl H1.out.kw⟩ k1 ?_⟩⟩
  intro b hb e
  rw [e, H1.out.rp] at hb
  cases hb

def DS.begun (D : DS) : DS := if D.fails < 1 then { D with ops := D.ops + 1 } else if D.fails = 1 then DS.crash { D with ops := D.ops + 1, fails := 0 } D.keep else { D with ops := D.ops + 1, fails := D.fails - 1 }
def DS.fit (D : DS) : Bool := decide (D.fails ≠ 1)

def Begun (w : World) (ro : Nat → Role) (p : Nat) (D : DS) (m : Nat) (fp : Nm → Nat) (bv : Value) (BV : List (Nm × By × Value)) (e : Ending) (w' : World) : Prop :=
  e = .returned (.bool D.fit) ∧ (D.fit = true → Dk0 w' p ro D.begun m fp bv BV ∧ Kp (fun b => b ≠ p) w w') ∧ (D.fit = false → Nx w ro p D.begun w')

set_option maxRecDepth 100000 in
theorem begin_any (p : Nat) (ro : Nat → Role) (D : DS) (ho0 : 0 ≤ D.ops) (ho : D.ops ≤ 4611686018427387904) (hf : D.fails ≤ 9223372036854775807) (w : World) (m : Nat) (fp : Nm → Nat) (bv : Value) (BV : List (Nm × By × Value)) (h : Dk0 w p ro D m fp bv BV) :
    Calls Try.prog 65 #[.pointer (some ⟨p, 0, none⟩)] w (Begun w ro p D m fp bv BV) := by
  have H := hid h
  have c1 := blk_cell h.cell
  have f1 := blk_free h.cell
  have B1 := hid h.cell
  have hp := blk_lt h.cell
  obtain ⟨x, hx⟩ : ∃ x, D.fails = x := ⟨_, rfl⟩
  obtain ⟨y, hy⟩ : ∃ y, D.ops = y := ⟨_, rfl⟩
  have HX := hid hx
  have HY := hid hy
  unfold dcs at c1
  rw [hx, hy] at c1
  rw [hx] at hf
  rw [hy] at ho0 ho
  clear h hx hy
  by_cases h1 : x < 1
  · have hd1 : decide (x < 1) = true := decide_eq_true h1
    have hfit : D.fit = true := by rw [DS.fit, HX.out]; exact decide_eq_true (by omega)
    have hbeg : D.begun = { D with ops := y + 1 } := by rw [DS.begun, HX.out, HY.out, if_pos h1]
    have HFT := hid hfit; have HBG := hid hbeg
    clear hfit hbeg
    go_enter Try.func65, Try.ntmps65
    go_wp2_with fail
    go_ret
    have k1 : Kp (fun b => b ≠ p) w (w.setCell ⟨p, 5, none⟩ (.int .i64 (y + 1))) := (Kp.refl _ _).setOut (by simp) _
    exact ⟨by rw [HFT.out]; rfl, fun _ => ⟨by rw [HBG.out]; exact H.out.cellset k1 (blk_set B1.out 5 _) rfl rfl rfl H.out.kw, k1⟩, (fun h => by rw [HFT.out] at h; cases h)⟩
  · have hd1 : decide (x < 1) = false := decide_eq_false h1
    by_cases h2 : x = 1
    · subst h2
      have hfit : D.fit = false := by rw [DS.fit, HX.out]; rfl
      have hbeg : D.begun = DS.crash { D with ops := y + 1, fails := 0 } D.keep := by rw [DS.begun, HX.out, HY.out, if_neg h1, if_pos rfl]
      have HFT := hid hfit; have HBG := hid hbeg
      clear hfit hbeg
      have k1 : Kp (fun b => b ≠ p) w ((w.setCell ⟨p, 5, none⟩ (.int .i64 (y + 1))).setCell ⟨p, 6, none⟩ (.int .i64 0)) := ((Kp.refl _ _).setOut (by simp) _).setOut (by simp) _
      have hd := H.out.cellset (D' := { D with ops := y + 1, fails := 0 }) k1 (blk_set (blk_set B1.out 5 _) 6 _) rfl rfl rfl H.out.kw
      have HD := hid hd
      have HK1 := hid k1
      have hkw := H.out.kw
      clear hd k1
      go_enter Try.func65, Try.ntmps65
      go_wp2_with fail
      refine (crash_any p ro _ D.keep hkw _ (by exact ⟨m, fp, bv, BV, HD.out⟩)).mono ?_
      rintro e w1 ⟨rfl, h1⟩
      have H1 := hid h1
      clear h1
      go_wp2_with fail
      go_ret
      exact ⟨by rw [HFT.out]; rfl, (fun h => by rw [HFT.out] at h; cases h), fun _ => by rw [HBG.out]; exact Nx.trans ⟨ro, fun _ _ h => h, HK1.out.mono (fun b _ hb => ndisk H.out.rp b hb), H1.out⟩⟩
    · have hd2 : decide (x - 1 = 0) = false := decide_eq_false (by omega)
      have hfit : D.fit = true := by rw [DS.fit, HX.out]; exact decide_eq_true h2
      have hbeg : D.begun = { D with ops := y + 1, fails := x - 1 } := by rw [DS.begun, HX.out, HY.out, if_neg h1, if_neg h2]
      have HFT := hid hfit; have HBG := hid hbeg
      clear hfit hbeg
      go_enter Try.func65, Try.ntmps65
      go_wp2_with fail
      go_ret
      have k1 : Kp (fun b => b ≠ p) w ((w.setCell ⟨p, 5, none⟩ (.int .i64 (y + 1))).setCell ⟨p, 6, none⟩ (.int .i64 (x - 1))) := ((Kp.refl _ _).setOut (by simp) _).setOut (by simp) _
      exact ⟨by rw [HFT.out]; rfl, fun _ => ⟨by rw [HBG.out]; exact H.out.cellset k1 (blk_set (blk_set B1.out 5 _) 6 _) rfl rfl rfl H.out.kw, k1⟩, (fun h => by rw [HFT.out] at h; cases h)⟩
end Go.Proofs.Ytdlbccjimdghkaa
