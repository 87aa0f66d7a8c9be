/- The disk: the document's example lives: it is as it says. No condition. -/
import Derived.Test.YtdlbccjimdghkaaDM
import Derived.Lib.SmallJoins
import Derived.Laws.BytesArg
namespace Go.Proofs.Ytdlbccjimdghkaa
open Go.RowKit
set_option linter.unusedVariables false
def na : Nm := ⟨#[97]⟩
def nb : Nm := ⟨#[98]⟩
def D0 : DS := ⟨3, false, 0, 0, 0, [], []⟩
def D1 : DS := ⟨3, false, 1, 0, 0, [(na, [])], []⟩
def D2 : DS := ⟨3, false, 2, 0, 0, [(na, [])], [(na, [120, 121, 122])]⟩
def D3 : DS := ⟨3, false, 3, 0, 0, [(na, [120, 121, 122])], []⟩
def D4 : DS := ⟨3, false, 4, 0, 0, [(na, [120, 121, 122]), (nb, [])], []⟩
def D5 : DS := ⟨3, false, 5, 0, 0, [(na, [120, 121, 122]), (nb, [])], [(nb, [112, 113])]⟩
def D6 : DS := ⟨3, false, 6, 0, 0, [(na, [120, 121, 122]), (nb, [])], [(nb, [112, 113]), (na, [114])]⟩
def D7 : DS := ⟨3, true, 6, 0, 0, [(na, [120, 121, 122]), (nb, [112])], []⟩
def D8 : DS := ⟨3, false, 6, 0, 0, [(na, [120, 121, 122]), (nb, [112])], []⟩
def z61 : By := List.replicate 61 0
def z70 : By := List.replicate 70 0
def D9 : DS := ⟨3, false, 7, 0, 0, [(na, [120, 121, 122]), (nb, [112])], [(na, z61)]⟩
theorem s1 : newErr D0 na = 0 ∧ newD D0 na = D1 := ⟨by kernel_rfl, by kernel_rfl⟩
theorem s2 : appErr D1 na [120, 121, 122] = 0 ∧ appD D1 na [120, 121, 122] = D2 := ⟨by kernel_rfl, by kernel_rfl⟩
theorem s3 : syncErr D2 = 0 ∧ syncD D2 = D3 := ⟨by kernel_rfl, by kernel_rfl⟩
theorem s4 : newErr D3 nb = 0 ∧ newD D3 nb = D4 := ⟨by kernel_rfl, by kernel_rfl⟩
theorem s5 : appErr D4 nb [112, 113] = 0 ∧ appD D4 nb [112, 113] = D5 := ⟨by kernel_rfl, by kernel_rfl⟩
theorem s6 : appErr D5 na [114] = 0 ∧ appD D5 na [114] = D6 := ⟨by kernel_rfl, by kernel_rfl⟩
theorem s7 : D6.crash 1 = D7 := by kernel_rfl
theorem s7b : appErr D7 na [] = 9 ∧ appD D7 na [] = D7 := ⟨by kernel_rfl, by kernel_rfl⟩
theorem s8 : D7.start = D8 := by kernel_rfl
theorem s8a : readErr D8 na = 0 ∧ readB D8 na = [120, 121, 122] := ⟨by kernel_rfl, by kernel_rfl⟩
theorem s8b : readErr D8 nb = 0 ∧ readB D8 nb = [112] := ⟨by kernel_rfl, by kernel_rfl⟩
theorem s9 : appErr D8 na z61 = 0 ∧ appD D8 na z61 = D9 := ⟨by kernel_rfl, by kernel_rfl⟩
theorem s9u : usedOf D9.F D9.B = 3 := by kernel_rfl
theorem s10 : appErr D9 nb z70 = 7 := by kernel_rfl
theorem okD (D : DS) (h0 : 0 ≤ D.ops := by decide) (h1 : D.ops ≤ 4611686018427387904 := by decide) (h2 : D.fails ≤ 9223372036854775807 := by decide) (h3 : D.B.length ≤ 1073741824 := by decide) : D.Ok := ⟨h0, h1, h2, h3⟩

theorem lit_foot {p : Nat} {ro : Nat → Role} {D : DS} (l : By) (w : World) (t : TypeId) (fz : Nat × Nat) (h : Dk w p ro D) : Foot (fun k => ro k = .none) (Sl (some ⟨w.heap.size, 0, none⟩) l.length l.length 1 (u8s l)) (w.alloc (.cells (u8s l).toArray t fz)) := by
  obtain ⟨m, fp, bv, BV, h⟩ := h
  intro u hu
  refine ⟨by simp, Nat.le_refl _, fun _ => ⟨_, 0, rfl, fun j x hj => ?_⟩⟩
  rw [Nat.zero_add, blk_cell (hu.heap (blk_new w _) (h.rnew _ (Nat.le_refl _)))]
  simpa using hj
theorem mk_zero (n : Nat) (hn : n ≤ 1000) (hm : madeCells (Value.cells (.int .u8 0)) (n * 1) = (u8s (List.replicate n 0)).toArray) (w : World) :
    (Instr.makeSlice 32 (.int .i64 (n : Int)) (.int .i64 (n : Int))).run Try.prog w = .ok (.slice (some ⟨w.heap.size, 0, none⟩) n n) (w.alloc (.cells (u8s (List.replicate n 0)).toArray 5)) := by
  obtain ⟨i, hi, hz, hs, hb⟩ := info_parts el8.info
  have := run_make (P := Try.prog) w 32 5 i (.int .u8 0) el8.sl hi hz .i64 .i64 (n : Int) (n : Int) (by omega) (by omega) (by rw [hb]; omega) (by omega)
  rw [this, hs, Int.toNat_natCast, hm]
theorem live_step {w w' w1 : World} {ro : Nat → Role} {p : Nat} {D : DS} (hK : Kp All w w') (hR : ∀ b, b < w.heap.size → ro b = .none) (h : Nx w' ro p D w1) : ∃ ro1, Dk w1 p ro1 D ∧ (∀ b, b < w.heap.size → ro1 b = .none) ∧ Kp All w w1 := by
  obtain ⟨ro1, h1, h2, h3⟩ := h
  exact ⟨ro1, h1, fun b hb => h2 b (Nat.lt_of_lt_of_le hb hK.size) (hR b hb), hK.then h3 (fun i hi _ => hR i hi)⟩
theorem own_str {w : World} {base : Nat} {v : Value} {l : By} (h : w.ownsRow base 5 1 v l.length (u8s l)) : (convert 32 9 v).run Try.prog w = .ok (.string ⟨l.toArray⟩) w := by
  rcases own_at h with ⟨rfl, hl, _⟩ | ⟨g, cap, cur, rfl, _, _, hc⟩
  · have : l = [] := List.eq_nil_of_length_eq_zero hl
    subst this
    exact run_convert_bytes_nil w _ _ Try.underlying32 Try.underlying5 0 0 _ Try.underlying9
  · refine run_convert_bytes_back w _ _ _ ⟨g, 0, none⟩ cap l Try.underlying32 Try.underlying5 Try.underlying9 fun j hj => ?_
    rw [add_lit0, Nat.zero_add]
    exact hc j _ (by simp [u8s, hj])
set_option maxRecDepth 100000 in
set_option maxHeartbeats 4000000 in
theorem lives_true (w : World) : Calls Try.prog 11 #[] w fun e w' => e = .returned (.bool true) ∧ Kp All w w' := by
  go_enter Try.func11, Try.ntmps11
  go_wp2_with fail
  refine (dnew_any 3 (by omega) (by omega) w).mono ?_
  rintro e w0 ⟨⟨p, ro0, rfl, hd0, hro0⟩, hk0⟩
  have HD0 := hid hd0; have HK0 := hid hk0; have HR0 := hid hro0
  clear hd0 hk0 hro0
  go_wp2_with fail
  refine (create_new p ro0 D0 (okD D0) na (by decide) w0 HD0.out (by kernel_rfl)).mono ?_
  rw [s1.1, s1.2]
  rintro e w1 ⟨rfl, hnx⟩
  replace hnx := live_step (HK0.out) HR0.out hnx
  obtain ⟨ro1, hd1, hr1, hk1⟩ := hnx; have HD1 := hid hd1; have HR1 := hid hr1; have HK1 := hid hk1; clear hd1 hk1 hr1
  have hcv := fun (w : World) (C : Array Value) (n c : Nat) => Lib.run_convert_bytes_const (P := Try.prog) w 32 5 C n c Try.underlying32 Try.underlying5
  go_wp2_with fail
  refine (append_any p ro1 D1 (okD D1) na [120, 121, 122] _ 3 _ (HD1.out.all (Kp.al _ _)) (lit_foot [120, 121, 122] _ _ _ HD1.out) (by decide)).mono ?_
  rw [s2.1, s2.2]
  rintro e w2 ⟨rfl, hnx⟩
  replace hnx := live_step (HK1.out.alloc _) HR1.out hnx
  obtain ⟨ro2, hd2, hr2, hk2⟩ := hnx; have HD2 := hid hd2; have HR2 := hid hr2; have HK2 := hid hk2; clear hd2 hk2 hr2
  go_wp2_with fail
  refine (sync_any p ro2 D2 (okD D2) w2 HD2.out).mono ?_
  rw [s3.1, s3.2]
  rintro e w3 ⟨rfl, hnx⟩
  replace hnx := live_step (HK2.out) HR2.out hnx
  obtain ⟨ro3, hd3, hr3, hk3⟩ := hnx; have HD3 := hid hd3; have HR3 := hid hr3; have HK3 := hid hk3; clear hd3 hk3 hr3
  go_wp2_with fail
  refine (create_new p ro3 D3 (okD D3) nb (by decide) w3 HD3.out (by kernel_rfl)).mono ?_
  rw [s4.1, s4.2]
  rintro e w4 ⟨rfl, hnx⟩
  replace hnx := live_step (HK3.out) HR3.out hnx
  obtain ⟨ro4, hd4, hr4, hk4⟩ := hnx; have HD4 := hid hd4; have HR4 := hid hr4; have HK4 := hid hk4; clear hd4 hk4 hr4
  go_wp2_with fail
  refine (append_any p ro4 D4 (okD D4) nb [112, 113] _ 2 _ (HD4.out.all (Kp.al _ _)) (lit_foot [112, 113] _ _ _ HD4.out) (by decide)).mono ?_
  rw [s5.1, s5.2]
  rintro e w5 ⟨rfl, hnx⟩
  replace hnx := live_step (HK4.out.alloc _) HR4.out hnx
  obtain ⟨ro5, hd5, hr5, hk5⟩ := hnx; have HD5 := hid hd5; have HR5 := hid hr5; have HK5 := hid hk5; clear hd5 hk5 hr5
  go_wp2_with fail
  refine (append_any p ro5 D5 (okD D5) na [114] _ 1 _ (HD5.out.all (Kp.al _ _)) (lit_foot [114] _ _ _ HD5.out) (by decide)).mono ?_
  rw [s6.1, s6.2]
  rintro e w6 ⟨rfl, hnx⟩
  replace hnx := live_step (HK5.out.alloc _) HR5.out hnx
  obtain ⟨ro6, hd6, hr6, hk6⟩ := hnx; have HD6 := hid hd6; have HR6 := hid hr6; have HK6 := hid hk6; clear hd6 hk6 hr6
  go_wp2_with fail
  refine (pend_any p ro6 D6 w6 HD6.out).mono ?_
  rintro e w6b ⟨rfl, hk⟩
  rw [show (if D6.off then 0 else pend D6.B) = 3 from by kernel_rfl]
  have HD6b := hid (HD6.out.all hk)
  have HK6b := hid (HK6.out.trans hk)
  clear hk
  go_wp2_with fail
  refine (crash_any p ro6 D6 1 (by decide) w6b HD6b.out).mono ?_
  rw [s7]
  rintro e w7 ⟨rfl, hnx⟩
  replace hnx := live_step (HK6b.out) HR6.out hnx
  obtain ⟨ro7, hd7, hr7, hk7⟩ := hnx; have HD7 := hid hd7; have HR7 := hid hr7; have HK7 := hid hk7; clear hd7 hk7 hr7
  go_wp2_with fail
  obtain ⟨m7, fp7, bv7, BV7, h7⟩ := HD7.out
  refine (on_any p m7 D7 _ bv7 w7 h7.cell).mono ?_
  rintro e w7b ⟨rfl, rfl⟩
  rw [show (!D7.off) = false from rfl]
  have H7 := hid h7
  clear h7
  go_wp2_with fail
  refine (append_any p ro7 D7 (okD D7) na [] none 0 w7 HD7.out (fun u _ => ⟨rfl, Nat.le_refl _, fun h => absurd h (by simp)⟩) (by decide)).mono ?_
  rw [s7b.1, s7b.2]
  rintro e w7c ⟨rfl, hnx⟩
  replace hnx := live_step HK7.out HR7.out hnx
  obtain ⟨roc, hdc, hrc, hkc⟩ := hnx; have HDc := hid hdc; have HRc := hid hrc; have HKc := hid hkc; clear hdc hkc hrc
  go_wp2_with fail
  refine (start_any p roc D7 w7c HDc.out).mono ?_
  rw [s8]
  rintro e w8 ⟨rfl, hnx⟩
  replace hnx := live_step HKc.out HRc.out hnx
  obtain ⟨ro8, hd8, hr8, hk8⟩ := hnx; have HD8 := hid hd8; have HR8 := hid hr8; have HK8 := hid hk8; clear hd8 hk8 hr8
  go_wp2_with fail
  refine (read_any p ro8 D8 na w8 HD8.out).mono ?_
  rw [s8a.1, s8a.2]
  rintro e w9 ⟨va, rfl, ha, hk⟩
  have HA := hid ha
  have HD9 := hid (HD8.out.all hk)
  have HK9 := hid (HK8.out.trans hk)
  clear ha hk
  go_wp2_with fail
  refine (read_any p ro8 D8 nb w9 HD9.out).mono ?_
  rw [s8b.1, s8b.2]
  rintro e w10 ⟨vb, rfl, hb, hk⟩
  have HD10 := hid (HD9.out.all hk)
  have HK10 := hid (HK9.out.trans hk)
  have hsa := own_str (own_kept HA.out hk (fun _ _ => trivial))
  have hsb := own_str hb
  have hm1 : ∀ w : World, (Instr.makeSlice 32 (.int .i64 61) (.int .i64 61)).run Try.prog w = .ok (.slice (some ⟨w.heap.size, 0, none⟩) 61 61) (w.alloc (.cells (u8s z61).toArray 5)) := fun w => mk_zero 61 (by decide) (by kernel_rfl) w
  have hm2 : ∀ w : World, (Instr.makeSlice 32 (.int .i64 70) (.int .i64 70)).run Try.prog w = .ok (.slice (some ⟨w.heap.size, 0, none⟩) 70 70) (w.alloc (.cells (u8s z70).toArray 5)) := fun w => mk_zero 70 (by decide) (by kernel_rfl) w
  clear hk hb
  go_wp2_with fail
  refine (append_any p ro8 D8 (okD D8) na z61 _ 61 _ (HD10.out.all (Kp.al _ _)) (lit_foot z61 _ _ _ HD10.out) (by decide)).mono ?_
  rw [s9.1, s9.2]
  rintro e w11 ⟨rfl, hnx⟩
  replace hnx := live_step (HK10.out.alloc _) HR8.out hnx
  obtain ⟨ro11, hd11, hr11, hk11⟩ := hnx; have HD11 := hid hd11; have HR11 := hid hr11; have HK11 := hid hk11; clear hd11 hk11 hr11
  go_wp2_with fail
  refine (used_any p ro11 D9 w11 HD11.out).mono ?_
  rintro e w12 ⟨rfl, rfl⟩
  rw [show (if D9.off then 0 else usedOf D9.F D9.B) = 3 from by kernel_rfl]
  go_wp2_with fail
  refine (append_any p ro11 D9 (okD D9) nb z70 _ 70 _ (HD11.out.all (Kp.al _ _)) (lit_foot z70 _ _ _ HD11.out) (by decide)).mono ?_
  rw [s10]
  rintro e w13 ⟨rfl, hnx⟩
  replace hnx := live_step (HK11.out.alloc _) HR11.out hnx
  obtain ⟨_, _, _, hk13⟩ := hnx
  have HK13 := hid hk13
  clear hk13
  go_wp2_with fail
  go_ret
  exact ⟨rfl, HK13.out⟩
end Go.Proofs.Ytdlbccjimdghkaa
