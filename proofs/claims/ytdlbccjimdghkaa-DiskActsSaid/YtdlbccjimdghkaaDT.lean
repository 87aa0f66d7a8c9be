/- DiskNone: the law's walk. No condition. -/
import Derived.Test.YtdlbccjimdghkaaDR
namespace Go.Proofs.Ytdlbccjimdghkaa
open Go.RowKit
set_option linter.unusedVariables false
/-- an act, and where its bytes lie -/
structure A8 where
  kind : Int
  a : Nm
  b : Nm
  data : By
  n : Int
  k : Int
  A : Option Addr
  c : Nat
def a8cells (x : A8) : List Value := [.int .i64 x.kind, .string x.a, .string x.b, .slice x.A x.data.length x.c, .int .i64 x.n, .int .i64 x.k]
theorem ix0 (a b : Option Addr) (w : World) : (Instr.index 58 (.agg #[.pointer a, .pointer b]) (.int .i64 0)).run Try.prog w = .ok (.pointer a) w := by kernel_rfl
theorem ix1 (a b : Option Addr) (w : World) : (Instr.index 58 (.agg #[.pointer a, .pointer b]) (.int .i64 1)).run Try.prog w = .ok (.pointer b) w := by kernel_rfl
set_option maxRecDepth 100000 in
set_option maxHeartbeats 2000000 in
theorem dnone_true (x : A8) (w : World) : Calls Try.prog 8 #[.agg (a8cells x).toArray] w fun e w' => e = .returned (.bool true) ∧ Kp All w w' := by
  have hz : ZeroD ((w.alloc (.cells (a8cells x).toArray 34)).alloc (.cells #[.int .i64 0, .int .i64 0, .map none, .slice none 0 0, .bool false, .int .i64 0, .int .i64 0, .int .i64 0] 57)) none := .inl rfl
  have hz2 : ZeroD ((w.alloc (.cells (a8cells x).toArray 34)).alloc (.cells #[.int .i64 0, .int .i64 0, .map none, .slice none 0 0, .bool false, .int .i64 0, .int .i64 0, .int .i64 0] 57)) (some ⟨w.heap.size + 1, 0, none⟩) := .inr ⟨_, rfl, by have := blk_new (w.alloc (.cells (a8cells x).toArray 34)) (.cells #[.int .i64 0, .int .i64 0, .map none, .slice none 0 0, .bool false, .int .i64 0, .int .i64 0, .int .i64 0] 57); rwa [World.size_alloc] at this⟩
  have hac := blk_alloc (blk_new w (.cells (a8cells x).toArray 34)) (.cells #[.int .i64 0, .int .i64 0, .map none, .slice none 0 0, .bool false, .int .i64 0, .int .i64 0, .int .i64 0] 57)
  have HZ := hid hz; have HZ2 := hid hz2; have HAC := hid hac
  clear hz hz2 hac
  unfold a8cells at *
  have hi0 := ix0; have hi1 := ix1
  go_enter Try.func8, Try.ntmps8
  go_wp2_with fail
  go_loopw [9] (fun i wr => ∃ k : Nat, k ≤ 2 ∧ i = .int .i64 k ∧ Hid (Kp All ((w.alloc (.cells (a8cells x).toArray 34)).alloc (.cells #[.int .i64 0, .int .i64 0, .map none, .slice none 0 0, .bool false, .int .i64 0, .int .i64 0, .int .i64 0] 57)) wr)) (fun i _ => 2 - (intOf i).toNat)
  case atStart => exact ⟨0, by omega, rfl, Kp.refl _ _⟩
  case round =>
    obtain ⟨k, hk, rfl, hkp⟩ := hrel
    have hc := blk_cell (hkp.out.heap HAC.out trivial)
    rcases (by omega : k = 2 ∨ k = 0 ∨ k = 1) with rfl | rfl | rfl
    · go_wp2_with fail
      refine (lives_true _).mono ?_
      rintro e w1 ⟨rfl, hk⟩
      have HK := hid hk
      clear hk
      go_wp2_with fail
      go_ret
      exact ⟨rfl, (((Kp.al _ _).alloc _).trans hkp.out).trans HK.out⟩
    · have hno := made_no (HZ.out.step hkp.out)
      have HN0 := hid hno
      have HK0 := hkp
      clear hno hkp
      go_wp2_with fail
      refine (crash_no x.n HN0.out).mono ?_
      rintro e w1 ⟨rfl, rfl⟩
      go_wp2_with fail
      refine (start_no HN0.out).mono ?_
      rintro e w1 ⟨rfl, rfl⟩
      go_wp2_with fail
      refine (read_no x.a HN0.out).mono ?_
      rintro e w1 ⟨rfl, hk⟩
      have HK1 := hid (HK0.out.trans hk)
      have HN1 := hid (HN0.out.step hk)
      have hc := blk_cell (HK1.out.heap HAC.out trivial)
      clear hk HK0 HN0
      go_wp2_with fail
      refine (create_no x.a HN1.out).mono ?_
      rintro e w1 ⟨rfl, hk⟩
      have HK2 := hid (HK1.out.trans hk)
      have HN2 := hid (HN1.out.step hk)
      have hc := blk_cell (HK2.out.heap HAC.out trivial)
      clear hk HK1 HN1
      go_wp2_with fail
      refine (append_no x.a x.A x.data.length x.c HN2.out).mono ?_
      rintro e w1 ⟨rfl, hk⟩
      have HK3 := hid (HK2.out.trans hk)
      have HN3 := hid (HN2.out.step hk)
      have hc := blk_cell (HK3.out.heap HAC.out trivial)
      clear hk HK2 HN2
      go_wp2_with fail
      refine (sync_no HN3.out).mono ?_
      rintro e w1 ⟨rfl, hk⟩
      have HK4 := hid (HK3.out.trans hk)
      have HN4 := hid (HN3.out.step hk)
      have hc := blk_cell (HK4.out.heap HAC.out trivial)
      clear hk HK3 HN3
      go_wp2_with fail
      refine (rename_no x.a x.b HN4.out).mono ?_
      rintro e w1 ⟨rfl, hk⟩
      have HK5 := hid (HK4.out.trans hk)
      have HN5 := hid (HN4.out.step hk)
      have hc := blk_cell (HK5.out.heap HAC.out trivial)
      clear hk HK4 HN4
      go_wp2_with fail
      refine (remove_no x.a HN5.out).mono ?_
      rintro e w1 ⟨rfl, hk⟩
      have HK6 := hid (HK5.out.trans hk)
      have HN6 := hid (HN5.out.step hk)
      have hc := blk_cell (HK6.out.heap HAC.out trivial)
      clear hk HK5 HN5
      go_wp2_with fail
      refine (arm_no x.n x.k HN6.out).mono ?_
      rintro e w1 ⟨rfl, hk⟩
      have HK7 := hid (HK6.out.trans hk)
      have HN7 := hid (HN6.out.step hk)
      have hc := blk_cell (HK7.out.heap HAC.out trivial)
      clear hk HK6 HN6
      go_wp2_with fail
      refine (spoil_no x.a x.n x.k HN7.out).mono ?_
      rintro e w1 ⟨rfl, hk⟩
      have HK8 := hid (HK7.out.trans hk)
      have HN8 := hid (HN7.out.step hk)
      have hc := blk_cell (HK8.out.heap HAC.out trivial)
      clear hk HK7 HN7
      go_wp2_with fail
      refine (list_no HN8.out).mono ?_
      rintro e w1 ⟨rfl, rfl⟩
      go_wp2_with fail
      refine (used_no HN8.out).mono ?_
      rintro e w1 ⟨rfl, rfl⟩
      go_wp2_with fail
      refine (pend_no HN8.out).mono ?_
      rintro e w1 ⟨rfl, rfl⟩
      go_wp2_with fail
      refine (ops_no HN8.out).mono ?_
      rintro e w1 ⟨rfl, rfl⟩
      go_wp2_with fail
      refine (on_no HN8.out).mono ?_
      rintro e w1 ⟨rfl, rfl⟩
      go_wp2_with fail
      exact ⟨⟨1, by omega, by go_num, HK8.out⟩, by simp [intOf]⟩
    · have hno := made_no (HZ2.out.step hkp.out)
      have HN0 := hid hno
      have HK0 := hkp
      clear hno hkp
      go_wp2_with fail
      refine (crash_no x.n HN0.out).mono ?_
      rintro e w1 ⟨rfl, rfl⟩
      go_wp2_with fail
      refine (start_no HN0.out).mono ?_
      rintro e w1 ⟨rfl, rfl⟩
      go_wp2_with fail
      refine (read_no x.a HN0.out).mono ?_
      rintro e w1 ⟨rfl, hk⟩
      have HK1 := hid (HK0.out.trans hk)
      have HN1 := hid (HN0.out.step hk)
      have hc := blk_cell (HK1.out.heap HAC.out trivial)
      clear hk HK0 HN0
      go_wp2_with fail
      refine (create_no x.a HN1.out).mono ?_
      rintro e w1 ⟨rfl, hk⟩
      have HK2 := hid (HK1.out.trans hk)
      have HN2 := hid (HN1.out.step hk)
      have hc := blk_cell (HK2.out.heap HAC.out trivial)
      clear hk HK1 HN1
      go_wp2_with fail
      refine (append_no x.a x.A x.data.length x.c HN2.out).mono ?_
      rintro e w1 ⟨rfl, hk⟩
      have HK3 := hid (HK2.out.trans hk)
      have HN3 := hid (HN2.out.step hk)
      have hc := blk_cell (HK3.out.heap HAC.out trivial)
      clear hk HK2 HN2
      go_wp2_with fail
      refine (sync_no HN3.out).mono ?_
      rintro e w1 ⟨rfl, hk⟩
      have HK4 := hid (HK3.out.trans hk)
      have HN4 := hid (HN3.out.step hk)
      have hc := blk_cell (HK4.out.heap HAC.out trivial)
      clear hk HK3 HN3
      go_wp2_with fail
      refine (rename_no x.a x.b HN4.out).mono ?_
      rintro e w1 ⟨rfl, hk⟩
      have HK5 := hid (HK4.out.trans hk)
      have HN5 := hid (HN4.out.step hk)
      have hc := blk_cell (HK5.out.heap HAC.out trivial)
      clear hk HK4 HN4
      go_wp2_with fail
      refine (remove_no x.a HN5.out).mono ?_
      rintro e w1 ⟨rfl, hk⟩
      have HK6 := hid (HK5.out.trans hk)
      have HN6 := hid (HN5.out.step hk)
      have hc := blk_cell (HK6.out.heap HAC.out trivial)
      clear hk HK5 HN5
      go_wp2_with fail
      refine (arm_no x.n x.k HN6.out).mono ?_
      rintro e w1 ⟨rfl, hk⟩
      have HK7 := hid (HK6.out.trans hk)
      have HN7 := hid (HN6.out.step hk)
      have hc := blk_cell (HK7.out.heap HAC.out trivial)
      clear hk HK6 HN6
      go_wp2_with fail
      refine (spoil_no x.a x.n x.k HN7.out).mono ?_
      rintro e w1 ⟨rfl, hk⟩
      have HK8 := hid (HK7.out.trans hk)
      have HN8 := hid (HN7.out.step hk)
      have hc := blk_cell (HK8.out.heap HAC.out trivial)
      clear hk HK7 HN7
      go_wp2_with fail
      refine (list_no HN8.out).mono ?_
      rintro e w1 ⟨rfl, rfl⟩
      go_wp2_with fail
      refine (used_no HN8.out).mono ?_
      rintro e w1 ⟨rfl, rfl⟩
      go_wp2_with fail
      refine (pend_no HN8.out).mono ?_
      rintro e w1 ⟨rfl, rfl⟩
      go_wp2_with fail
      refine (ops_no HN8.out).mono ?_
      rintro e w1 ⟨rfl, rfl⟩
      go_wp2_with fail
      refine (on_no HN8.out).mono ?_
      rintro e w1 ⟨rfl, rfl⟩
      go_wp2_with fail
      exact ⟨⟨2, by omega, by go_num, HK8.out⟩, by simp [intOf]⟩
end Go.Proofs.Ytdlbccjimdghkaa
