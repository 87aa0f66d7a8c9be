/- SessionNone: the law's walk. No condition. -/
import Derived.Test.YtkipijdbkkcioaaSG
namespace Go.Proofs.Ytkipijdbkkcioaa
open Go.RowKit
set_option linter.unusedVariables false
theorem ix0 (a b : Option Addr) (w : World) : (Instr.index 61 (.agg #[.pointer a, .pointer b]) (.int .i64 0)).run Try.prog w = .ok (.pointer a) w := by kernel_rfl
theorem ix1 (a b : Option Addr) (w : World) : (Instr.index 61 (.agg #[.pointer a, .pointer b]) (.int .i64 1)).run Try.prog w = .ok (.pointer b) w := by kernel_rfl
set_option maxRecDepth 100000 in
set_option maxHeartbeats 2000000 in
theorem snone_true (x : AD) (w : World) : Calls Try.prog 6 #[.agg (actCells x).toArray] w fun e w' => e = .returned (.bool true) ∧ Kp All w w' := by
  have hz : ZeroT ((w.alloc (.cells (actCells x).toArray 28)).alloc (.cells #[.map none] 60)) none := .inl rfl
  have hz2 : ZeroT ((w.alloc (.cells (actCells x).toArray 28)).alloc (.cells #[.map none] 60)) (some ⟨w.heap.size + 1, 0, none⟩) := .inr ⟨_, rfl, by have := blk_new (w.alloc (.cells (actCells x).toArray 28)) (.cells #[.map none] 60); rwa [World.size_alloc] at this⟩
  have hac := blk_alloc (blk_new w (.cells (actCells x).toArray 28)) (.cells #[.map none] 60)
  have HZ := hid hz; have HZ2 := hid hz2; have HAC := hid hac
  clear hz hz2 hac
  have hi0 := ix0; have hi1 := ix1
  go_enter Try.func6, Try.ntmps6
  go_wp2_with fail
  go_loopw [9] (fun i wr => ∃ k : Nat, k ≤ 2 ∧ i = .int .i64 k ∧ Hid (Kp All ((w.alloc (.cells (actCells x).toArray 28)).alloc (.cells #[.map none] 60)) wr)) (fun i _ => 2 - (intOf i).toNat)
  case atStart => exact ⟨0, by omega, rfl, Kp.refl _ _⟩
  case round =>
    obtain ⟨k, hk, rfl, hkp⟩ := hrel
    have hc := blk_cell (hkp.out.heap HAC.out trivial)
    rcases (by omega : k = 2 ∨ k = 0 ∨ k = 1) with rfl | rfl | rfl
    · go_wp2_with fail
      refine (lives_any _).mono ?_
      rintro e w1 ⟨rfl, hk⟩
      have HK := hid hk
      clear hk
      go_wp2_with fail
      go_ret
      exact ⟨rfl, (((Kp.al _ _).alloc _).trans hkp.out).trans HK.out⟩
    · have hno := made_no (HZ.out.step hkp.out)
      have HN0 := hid hno
      have HK0 := hkp
      clear hno hkp
      go_wp2_with fail
      refine (ask_no x.n x.m (HN0.out.step (by repeat (first | (with_reducible exact Kp.refl _ _) | (with_reducible refine Kp.alloc ?_ _) | (with_reducible refine Kp.drew ?_) | (with_reducible refine Kp.drewN ?_ _))))).mono ?_
      rintro e w1 ⟨rfl, hk⟩
      have HK1 := hid (HK0.out.trans (Kp.trans (by repeat (first | (with_reducible exact Kp.refl _ _) | (with_reducible refine Kp.alloc ?_ _) | (with_reducible refine Kp.drew ?_) | (with_reducible refine Kp.drewN ?_ _))) hk))
      have HN1 := hid (HN0.out.step (Kp.trans (by repeat (first | (with_reducible exact Kp.refl _ _) | (with_reducible refine Kp.alloc ?_ _) | (with_reducible refine Kp.drew ?_) | (with_reducible refine Kp.drewN ?_ _))) hk))
      have hc := blk_cell (HK1.out.heap HAC.out trivial)
      have hlt := blk_lt (HK1.out.heap HAC.out trivial)
      clear hk HK0 HN0
      go_wp2_with fail
      refine (open_no x.n (HN1.out.step (by repeat (first | (with_reducible exact Kp.refl _ _) | (with_reducible refine Kp.alloc ?_ _) | (with_reducible refine Kp.drew ?_) | (with_reducible refine Kp.drewN ?_ _))))).mono ?_
      rintro e w1 ⟨rfl, hk⟩
      have HK2 := hid (HK1.out.trans (Kp.trans (by repeat (first | (with_reducible exact Kp.refl _ _) | (with_reducible refine Kp.alloc ?_ _) | (with_reducible refine Kp.drew ?_) | (with_reducible refine Kp.drewN ?_ _))) hk))
      have HN2 := hid (HN1.out.step (Kp.trans (by repeat (first | (with_reducible exact Kp.refl _ _) | (with_reducible refine Kp.alloc ?_ _) | (with_reducible refine Kp.drew ?_) | (with_reducible refine Kp.drewN ?_ _))) hk))
      have hc := blk_cell (HK2.out.heap HAC.out trivial)
      have hlt := blk_lt (HK2.out.heap HAC.out trivial)
      clear hk HK1 HN1
      go_wp2_with fail
      refine (done_no x.n x.m x.r x.A x.c (HN2.out.step (by repeat (first | (with_reducible exact Kp.refl _ _) | (with_reducible refine Kp.alloc ?_ _) | (with_reducible refine Kp.drew ?_) | (with_reducible refine Kp.drewN ?_ _))))).mono ?_
      rintro e w1 ⟨rfl, hk⟩
      have HK3 := hid (HK2.out.trans (Kp.trans (by repeat (first | (with_reducible exact Kp.refl _ _) | (with_reducible refine Kp.alloc ?_ _) | (with_reducible refine Kp.drew ?_) | (with_reducible refine Kp.drewN ?_ _))) hk))
      have HN3 := hid (HN2.out.step (Kp.trans (by repeat (first | (with_reducible exact Kp.refl _ _) | (with_reducible refine Kp.alloc ?_ _) | (with_reducible refine Kp.drew ?_) | (with_reducible refine Kp.drewN ?_ _))) hk))
      have hc := blk_cell (HK3.out.heap HAC.out trivial)
      have hlt := blk_lt (HK3.out.heap HAC.out trivial)
      clear hk HK2 HN2
      go_wp2_with fail
      refine (expire_no x.n (HN3.out.step (by repeat (first | (with_reducible exact Kp.refl _ _) | (with_reducible refine Kp.alloc ?_ _) | (with_reducible refine Kp.drew ?_) | (with_reducible refine Kp.drewN ?_ _))))).mono ?_
      rintro e w1 ⟨rfl, hk⟩
      have HK4 := hid (HK3.out.trans (Kp.trans (by repeat (first | (with_reducible exact Kp.refl _ _) | (with_reducible refine Kp.alloc ?_ _) | (with_reducible refine Kp.drew ?_) | (with_reducible refine Kp.drewN ?_ _))) hk))
      have HN4 := hid (HN3.out.step (Kp.trans (by repeat (first | (with_reducible exact Kp.refl _ _) | (with_reducible refine Kp.alloc ?_ _) | (with_reducible refine Kp.drew ?_) | (with_reducible refine Kp.drewN ?_ _))) hk))
      have hc := blk_cell (HK4.out.heap HAC.out trivial)
      have hlt := blk_lt (HK4.out.heap HAC.out trivial)
      clear hk HK3 HN3
      go_wp2_with fail
      refine (ids_no (HN4.out.step (by repeat (first | (with_reducible exact Kp.refl _ _) | (with_reducible refine Kp.alloc ?_ _) | (with_reducible refine Kp.drew ?_) | (with_reducible refine Kp.drewN ?_ _))))).mono ?_
      rintro e w1 ⟨rfl, hk⟩
      have HK5 := hid (HK4.out.trans (Kp.trans (by repeat (first | (with_reducible exact Kp.refl _ _) | (with_reducible refine Kp.alloc ?_ _) | (with_reducible refine Kp.drew ?_) | (with_reducible refine Kp.drewN ?_ _))) hk))
      have HN5 := hid (HN4.out.step (Kp.trans (by repeat (first | (with_reducible exact Kp.refl _ _) | (with_reducible refine Kp.alloc ?_ _) | (with_reducible refine Kp.drew ?_) | (with_reducible refine Kp.drewN ?_ _))) hk))
      have hc := blk_cell (HK5.out.heap HAC.out trivial)
      have hlt := blk_lt (HK5.out.heap HAC.out trivial)
      clear hk HK4 HN4
      go_wp2_with fail
      refine (bytes_no (HN5.out.step (by repeat (first | (with_reducible exact Kp.refl _ _) | (with_reducible refine Kp.alloc ?_ _) | (with_reducible refine Kp.drew ?_) | (with_reducible refine Kp.drewN ?_ _))))).mono ?_
      rintro e w1 ⟨rfl, hk⟩
      have HK6 := hid (HK5.out.trans (Kp.trans (by repeat (first | (with_reducible exact Kp.refl _ _) | (with_reducible refine Kp.alloc ?_ _) | (with_reducible refine Kp.drew ?_) | (with_reducible refine Kp.drewN ?_ _))) hk))
      have HN6 := hid (HN5.out.step (Kp.trans (by repeat (first | (with_reducible exact Kp.refl _ _) | (with_reducible refine Kp.alloc ?_ _) | (with_reducible refine Kp.drew ?_) | (with_reducible refine Kp.drewN ?_ _))) hk))
      have hc := blk_cell (HK6.out.heap HAC.out trivial)
      have hlt := blk_lt (HK6.out.heap HAC.out trivial)
      clear hk HK5 HN5
      go_wp2_with fail
      exact ⟨⟨1, by omega, by go_num, HK6.out⟩, by simp [intOf]⟩
    · have hno := made_no (HZ2.out.step hkp.out)
      have HN0 := hid hno
      have HK0 := hkp
      clear hno hkp
      go_wp2_with fail
      refine (ask_no x.n x.m (HN0.out.step (by repeat (first | (with_reducible exact Kp.refl _ _) | (with_reducible refine Kp.alloc ?_ _) | (with_reducible refine Kp.drew ?_) | (with_reducible refine Kp.drewN ?_ _))))).mono ?_
      rintro e w1 ⟨rfl, hk⟩
      have HK1 := hid (HK0.out.trans (Kp.trans (by repeat (first | (with_reducible exact Kp.refl _ _) | (with_reducible refine Kp.alloc ?_ _) | (with_reducible refine Kp.drew ?_) | (with_reducible refine Kp.drewN ?_ _))) hk))
      have HN1 := hid (HN0.out.step (Kp.trans (by repeat (first | (with_reducible exact Kp.refl _ _) | (with_reducible refine Kp.alloc ?_ _) | (with_reducible refine Kp.drew ?_) | (with_reducible refine Kp.drewN ?_ _))) hk))
      have hc := blk_cell (HK1.out.heap HAC.out trivial)
      have hlt := blk_lt (HK1.out.heap HAC.out trivial)
      clear hk HK0 HN0
      go_wp2_with fail
      refine (open_no x.n (HN1.out.step (by repeat (first | (with_reducible exact Kp.refl _ _) | (with_reducible refine Kp.alloc ?_ _) | (with_reducible refine Kp.drew ?_) | (with_reducible refine Kp.drewN ?_ _))))).mono ?_
      rintro e w1 ⟨rfl, hk⟩
      have HK2 := hid (HK1.out.trans (Kp.trans (by repeat (first | (with_reducible exact Kp.refl _ _) | (with_reducible refine Kp.alloc ?_ _) | (with_reducible refine Kp.drew ?_) | (with_reducible refine Kp.drewN ?_ _))) hk))
      have HN2 := hid (HN1.out.step (Kp.trans (by repeat (first | (with_reducible exact Kp.refl _ _) | (with_reducible refine Kp.alloc ?_ _) | (with_reducible refine Kp.drew ?_) | (with_reducible refine Kp.drewN ?_ _))) hk))
      have hc := blk_cell (HK2.out.heap HAC.out trivial)
      have hlt := blk_lt (HK2.out.heap HAC.out trivial)
      clear hk HK1 HN1
      go_wp2_with fail
      refine (done_no x.n x.m x.r x.A x.c (HN2.out.step (by repeat (first | (with_reducible exact Kp.refl _ _) | (with_reducible refine Kp.alloc ?_ _) | (with_reducible refine Kp.drew ?_) | (with_reducible refine Kp.drewN ?_ _))))).mono ?_
      rintro e w1 ⟨rfl, hk⟩
      have HK3 := hid (HK2.out.trans (Kp.trans (by repeat (first | (with_reducible exact Kp.refl _ _) | (with_reducible refine Kp.alloc ?_ _) | (with_reducible refine Kp.drew ?_) | (with_reducible refine Kp.drewN ?_ _))) hk))
      have HN3 := hid (HN2.out.step (Kp.trans (by repeat (first | (with_reducible exact Kp.refl _ _) | (with_reducible refine Kp.alloc ?_ _) | (with_reducible refine Kp.drew ?_) | (with_reducible refine Kp.drewN ?_ _))) hk))
      have hc := blk_cell (HK3.out.heap HAC.out trivial)
      have hlt := blk_lt (HK3.out.heap HAC.out trivial)
      clear hk HK2 HN2
      go_wp2_with fail
      refine (expire_no x.n (HN3.out.step (by repeat (first | (with_reducible exact Kp.refl _ _) | (with_reducible refine Kp.alloc ?_ _) | (with_reducible refine Kp.drew ?_) | (with_reducible refine Kp.drewN ?_ _))))).mono ?_
      rintro e w1 ⟨rfl, hk⟩
      have HK4 := hid (HK3.out.trans (Kp.trans (by repeat (first | (with_reducible exact Kp.refl _ _) | (with_reducible refine Kp.alloc ?_ _) | (with_reducible refine Kp.drew ?_) | (with_reducible refine Kp.drewN ?_ _))) hk))
      have HN4 := hid (HN3.out.step (Kp.trans (by repeat (first | (with_reducible exact Kp.refl _ _) | (with_reducible refine Kp.alloc ?_ _) | (with_reducible refine Kp.drew ?_) | (with_reducible refine Kp.drewN ?_ _))) hk))
      have hc := blk_cell (HK4.out.heap HAC.out trivial)
      have hlt := blk_lt (HK4.out.heap HAC.out trivial)
      clear hk HK3 HN3
      go_wp2_with fail
      refine (ids_no (HN4.out.step (by repeat (first | (with_reducible exact Kp.refl _ _) | (with_reducible refine Kp.alloc ?_ _) | (with_reducible refine Kp.drew ?_) | (with_reducible refine Kp.drewN ?_ _))))).mono ?_
      rintro e w1 ⟨rfl, hk⟩
      have HK5 := hid (HK4.out.trans (Kp.trans (by repeat (first | (with_reducible exact Kp.refl _ _) | (with_reducible refine Kp.alloc ?_ _) | (with_reducible refine Kp.drew ?_) | (with_reducible refine Kp.drewN ?_ _))) hk))
      have HN5 := hid (HN4.out.step (Kp.trans (by repeat (first | (with_reducible exact Kp.refl _ _) | (with_reducible refine Kp.alloc ?_ _) | (with_reducible refine Kp.drew ?_) | (with_reducible refine Kp.drewN ?_ _))) hk))
      have hc := blk_cell (HK5.out.heap HAC.out trivial)
      have hlt := blk_lt (HK5.out.heap HAC.out trivial)
      clear hk HK4 HN4
      go_wp2_with fail
      refine (bytes_no (HN5.out.step (by repeat (first | (with_reducible exact Kp.refl _ _) | (with_reducible refine Kp.alloc ?_ _) | (with_reducible refine Kp.drew ?_) | (with_reducible refine Kp.drewN ?_ _))))).mono ?_
      rintro e w1 ⟨rfl, hk⟩
      have HK6 := hid (HK5.out.trans (Kp.trans (by repeat (first | (with_reducible exact Kp.refl _ _) | (with_reducible refine Kp.alloc ?_ _) | (with_reducible refine Kp.drew ?_) | (with_reducible refine Kp.drewN ?_ _))) hk))
      have HN6 := hid (HN5.out.step (Kp.trans (by repeat (first | (with_reducible exact Kp.refl _ _) | (with_reducible refine Kp.alloc ?_ _) | (with_reducible refine Kp.drew ?_) | (with_reducible refine Kp.drewN ?_ _))) hk))
      have hc := blk_cell (HK6.out.heap HAC.out trivial)
      have hlt := blk_lt (HK6.out.heap HAC.out trivial)
      clear hk HK5 HN5
      go_wp2_with fail
      exact ⟨⟨2, by omega, by go_num, HK6.out⟩, by simp [intOf]⟩
end Go.Proofs.Ytkipijdbkkcioaa
