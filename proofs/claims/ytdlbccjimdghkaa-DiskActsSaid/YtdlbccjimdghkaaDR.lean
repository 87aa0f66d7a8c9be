/- A disk that no call made: what each call answers to it, walked once each. No condition. -/
import Derived.Test.YtdlbccjimdghkaaDN
namespace Go.Proofs.Ytdlbccjimdghkaa
open Go.RowKit
set_option linter.unusedVariables false
/-- a disk that no call made: nil, or all zero -/
def ZeroD (w : World) (po : Option Addr) : Prop := po = none ∨ ∃ z, po = some ⟨z, 0, none⟩ ∧ w.heap[z]? = some (.cells #[.int .i64 0, .int .i64 0, .map none, .slice none 0 0, .bool false, .int .i64 0, .int .i64 0, .int .i64 0] 57 (0, 0))
def NoD (w : World) (po : Option Addr) : Prop := ∀ w1, Kp All w w1 → Calls Try.prog 43 #[.pointer po] w1 fun e w' => e = .returned (.bool false) ∧ w1 = w'
theorem NoD.step {w w1 : World} {po : Option Addr} (h : NoD w po) (k : Kp All w w1) : NoD w1 po := fun w2 k2 => h w2 (k.trans k2)
theorem ZeroD.step {w w1 : World} {po : Option Addr} (h : ZeroD w po) (k : Kp All w w1) : ZeroD w1 po := by
  rcases h with h | ⟨z, h1, h2⟩
  · exact .inl h
  · exact .inr ⟨z, h1, k.heap h2 trivial⟩
set_option maxRecDepth 100000 in
theorem made_no {w : World} {po : Option Addr} (h : ZeroD w po) : NoD w po := by
  intro w1 k
  have hn := fun (w : World) (m : Option Nat) => run_neq_map_nil w 54 9 62 m Try.underlying54
  rcases h.step k with rfl | ⟨z, rfl, hz⟩
  · clear h
    go_enter Try.func43, Try.ntmps43
    go_wp2
    go_ret
    exact ⟨rfl, rfl⟩
  · have c1 := blk_cell hz
    clear h hz
    go_enter Try.func43, Try.ntmps43
    go_wp2
    go_ret
    exact ⟨rfl, rfl⟩
set_option maxRecDepth 100000 in
theorem may_no {w : World} {po : Option Addr} (h : NoD w po) : Calls Try.prog 33 #[.pointer po] w fun e w' => e = .returned (.int .i64 1) ∧ w = w' := by
  have H := hid h
  clear h
  go_enter Try.func33, Try.ntmps33
  go_wp2_with fail
  refine (H.out _ (Kp.refl _ _)).mono ?_
  rintro e w1 ⟨rfl, rfl⟩
  go_wp2_with fail
  go_ret
  exact ⟨rfl, rfl⟩
theorem on_no {w : World} {po : Option Addr} (h : NoD w po) : Calls Try.prog 22 #[.pointer po] w fun e w' => e = .returned (.bool false) ∧ w = w' := by
  have H := hid h
  clear h
  go_enter Try.func22, Try.ntmps22
  go_wp2_with fail
  refine (H.out _ (Kp.refl _ _)).mono ?_
  rintro e w1 ⟨rfl, rfl⟩
  go_wp2_with fail
  go_ret
  exact ⟨rfl, rfl⟩
theorem crash_no {w : World} {po : Option Addr} (n : Int) (h : NoD w po) : Calls Try.prog 18 #[.pointer po, .int .i64 n] w fun e w' => e = .returned (.tuple #[]) ∧ w = w' := by
  have H := hid h
  clear h
  go_enter Try.func18, Try.ntmps18
  go_wp2_with fail
  refine (H.out _ (Kp.refl _ _)).mono ?_
  rintro e w1 ⟨rfl, rfl⟩
  go_wp2_with fail
  go_end0
  exact ⟨rfl, rfl⟩
theorem start_no {w : World} {po : Option Addr} (h : NoD w po) : Calls Try.prog 19 #[.pointer po] w fun e w' => e = .returned (.tuple #[]) ∧ w = w' := by
  have H := hid h
  clear h
  go_enter Try.func19, Try.ntmps19
  go_wp2_with fail
  refine (H.out _ (Kp.refl _ _)).mono ?_
  rintro e w1 ⟨rfl, rfl⟩
  go_wp2_with fail
  go_end0
  exact ⟨rfl, rfl⟩
theorem read_no {w : World} {po : Option Addr} (n : Nm) (h : NoD w po) : Calls Try.prog 20 #[.pointer po, .string n] w fun e w' => e = .returned (.tuple #[.slice none 0 0, .int .i64 1]) ∧ Kp All w w' := by
  have H := hid h
  clear h
  go_enter Try.func20, Try.ntmps20
  go_wp2_with fail
  refine (may_no H.out).mono ?_
  rintro e w1 ⟨rfl, rfl⟩
  go_wp2_with fail
  exact bodyPost_ret (v := .tuple #[.slice none 0 0, .int .i64 1]) (by simp [results, Try.results20, go_sem]) rfl ⟨rfl, Kp.refl _ _⟩
set_option maxRecDepth 100000 in
theorem create_no {w : World} {po : Option Addr} (n : Nm) (h : NoD w po) : Calls Try.prog 14 #[.pointer po, .string n] w fun e w' => e = .returned (.int .i64 1) ∧ Kp All w w' := by
  have H := hid h
  clear h
  go_enter Try.func14, Try.ntmps14
  go_wp2_with fail
  refine (may_no (H.out.step (by repeat (first | (with_reducible exact Kp.refl _ _) | (with_reducible refine Kp.alloc ?_ _) | (with_reducible refine Kp.drew ?_) | (with_reducible refine Kp.drewN ?_ _))))).mono ?_
  rintro e w1 ⟨rfl, rfl⟩
  go_wp2_with fail
  go_ret
  exact ⟨rfl, by repeat (first | (with_reducible exact Kp.refl _ _) | (with_reducible refine Kp.alloc ?_ _) | (with_reducible refine Kp.drew ?_) | (with_reducible refine Kp.drewN ?_ _))⟩
set_option maxRecDepth 100000 in
theorem append_no {w : World} {po : Option Addr} (n : Nm) (A : Option Addr) (l c : Nat) (h : NoD w po) : Calls Try.prog 17 #[.pointer po, .string n, .slice A l c] w fun e w' => e = .returned (.int .i64 1) ∧ Kp All w w' := by
  have H := hid h
  clear h
  go_enter Try.func17, Try.ntmps17
  go_wp2_with fail
  refine (may_no (H.out.step (by repeat (first | (with_reducible exact Kp.refl _ _) | (with_reducible refine Kp.alloc ?_ _) | (with_reducible refine Kp.drew ?_) | (with_reducible refine Kp.drewN ?_ _))))).mono ?_
  rintro e w1 ⟨rfl, rfl⟩
  go_wp2_with fail
  go_ret
  exact ⟨rfl, by repeat (first | (with_reducible exact Kp.refl _ _) | (with_reducible refine Kp.alloc ?_ _) | (with_reducible refine Kp.drew ?_) | (with_reducible refine Kp.drewN ?_ _))⟩
set_option maxRecDepth 100000 in
theorem sync_no {w : World} {po : Option Addr} (h : NoD w po) : Calls Try.prog 15 #[.pointer po] w fun e w' => e = .returned (.int .i64 1) ∧ Kp All w w' := by
  have H := hid h
  clear h
  go_enter Try.func15, Try.ntmps15
  go_wp2_with fail
  refine (may_no (H.out.step (by repeat (first | (with_reducible exact Kp.refl _ _) | (with_reducible refine Kp.alloc ?_ _) | (with_reducible refine Kp.drew ?_) | (with_reducible refine Kp.drewN ?_ _))))).mono ?_
  rintro e w1 ⟨rfl, rfl⟩
  go_wp2_with fail
  go_ret
  exact ⟨rfl, by repeat (first | (with_reducible exact Kp.refl _ _) | (with_reducible refine Kp.alloc ?_ _) | (with_reducible refine Kp.drew ?_) | (with_reducible refine Kp.drewN ?_ _))⟩
set_option maxRecDepth 100000 in
theorem rename_no {w : World} {po : Option Addr} (n n2 : Nm) (h : NoD w po) : Calls Try.prog 27 #[.pointer po, .string n, .string n2] w fun e w' => e = .returned (.int .i64 1) ∧ Kp All w w' := by
  have H := hid h
  clear h
  go_enter Try.func27, Try.ntmps27
  go_wp2_with fail
  refine (may_no (H.out.step (by repeat (first | (with_reducible exact Kp.refl _ _) | (with_reducible refine Kp.alloc ?_ _) | (with_reducible refine Kp.drew ?_) | (with_reducible refine Kp.drewN ?_ _))))).mono ?_
  rintro e w1 ⟨rfl, rfl⟩
  go_wp2_with fail
  go_ret
  exact ⟨rfl, by repeat (first | (with_reducible exact Kp.refl _ _) | (with_reducible refine Kp.alloc ?_ _) | (with_reducible refine Kp.drew ?_) | (with_reducible refine Kp.drewN ?_ _))⟩
set_option maxRecDepth 100000 in
theorem remove_no {w : World} {po : Option Addr} (n : Nm) (h : NoD w po) : Calls Try.prog 28 #[.pointer po, .string n] w fun e w' => e = .returned (.int .i64 1) ∧ Kp All w w' := by
  have H := hid h
  clear h
  go_enter Try.func28, Try.ntmps28
  go_wp2_with fail
  refine (may_no (H.out.step (by repeat (first | (with_reducible exact Kp.refl _ _) | (with_reducible refine Kp.alloc ?_ _) | (with_reducible refine Kp.drew ?_) | (with_reducible refine Kp.drewN ?_ _))))).mono ?_
  rintro e w1 ⟨rfl, rfl⟩
  go_wp2_with fail
  go_ret
  exact ⟨rfl, by repeat (first | (with_reducible exact Kp.refl _ _) | (with_reducible refine Kp.alloc ?_ _) | (with_reducible refine Kp.drew ?_) | (with_reducible refine Kp.drewN ?_ _))⟩
set_option maxRecDepth 100000 in
theorem arm_no {w : World} {po : Option Addr} (a b : Int) (h : NoD w po) : Calls Try.prog 21 #[.pointer po, .int .i64 a, .int .i64 b] w fun e w' => e = .returned (.int .i64 1) ∧ Kp All w w' := by
  have H := hid h
  clear h
  go_enter Try.func21, Try.ntmps21
  go_wp2_with fail
  refine (may_no (H.out.step (by repeat (first | (with_reducible exact Kp.refl _ _) | (with_reducible refine Kp.alloc ?_ _) | (with_reducible refine Kp.drew ?_) | (with_reducible refine Kp.drewN ?_ _))))).mono ?_
  rintro e w1 ⟨rfl, rfl⟩
  go_wp2_with fail
  go_ret
  exact ⟨rfl, by repeat (first | (with_reducible exact Kp.refl _ _) | (with_reducible refine Kp.alloc ?_ _) | (with_reducible refine Kp.drew ?_) | (with_reducible refine Kp.drewN ?_ _))⟩
set_option maxRecDepth 100000 in
theorem spoil_no {w : World} {po : Option Addr} (n : Nm) (a b : Int) (h : NoD w po) : Calls Try.prog 32 #[.pointer po, .string n, .int .i64 a, .int .i64 b] w fun e w' => e = .returned (.int .i64 1) ∧ Kp All w w' := by
  have H := hid h
  clear h
  go_enter Try.func32, Try.ntmps32
  go_wp2_with fail
  refine (may_no (H.out.step (by repeat (first | (with_reducible exact Kp.refl _ _) | (with_reducible refine Kp.alloc ?_ _) | (with_reducible refine Kp.drew ?_) | (with_reducible refine Kp.drewN ?_ _))))).mono ?_
  rintro e w1 ⟨rfl, rfl⟩
  go_wp2_with fail
  go_ret
  exact ⟨rfl, by repeat (first | (with_reducible exact Kp.refl _ _) | (with_reducible refine Kp.alloc ?_ _) | (with_reducible refine Kp.drew ?_) | (with_reducible refine Kp.drewN ?_ _))⟩
theorem list_no {w : World} {po : Option Addr} (h : NoD w po) : Calls Try.prog 25 #[.pointer po] w fun e w' => e = .returned (.slice none 0 0) ∧ w = w' := by
  have H := hid h
  clear h
  go_enter Try.func25, Try.ntmps25
  go_wp2_with fail
  refine (on_no H.out).mono ?_
  rintro e w1 ⟨rfl, rfl⟩
  go_wp2_with fail
  go_ret
  exact ⟨rfl, rfl⟩
theorem used_no {w : World} {po : Option Addr} (h : NoD w po) : Calls Try.prog 26 #[.pointer po] w fun e w' => e = .returned (.int .i64 0) ∧ w = w' := by
  have H := hid h
  clear h
  go_enter Try.func26, Try.ntmps26
  go_wp2_with fail
  refine (on_no H.out).mono ?_
  rintro e w1 ⟨rfl, rfl⟩
  go_wp2_with fail
  go_ret
  exact ⟨rfl, rfl⟩
theorem pend_no {w : World} {po : Option Addr} (h : NoD w po) : Calls Try.prog 16 #[.pointer po] w fun e w' => e = .returned (.int .i64 0) ∧ w = w' := by
  have H := hid h
  clear h
  go_enter Try.func16, Try.ntmps16
  go_wp2_with fail
  refine (on_no H.out).mono ?_
  rintro e w1 ⟨rfl, rfl⟩
  go_wp2_with fail
  go_ret
  exact ⟨rfl, rfl⟩
theorem ops_no {w : World} {po : Option Addr} (h : NoD w po) : Calls Try.prog 23 #[.pointer po] w fun e w' => e = .returned (.int .i64 0) ∧ w = w' := by
  have H := hid h
  clear h
  go_enter Try.func23, Try.ntmps23
  go_wp2_with fail
  refine (H.out _ (Kp.refl _ _)).mono ?_
  rintro e w1 ⟨rfl, rfl⟩
  go_wp2_with fail
  go_ret
  exact ⟨rfl, rfl⟩
end Go.Proofs.Ytdlbccjimdghkaa
