/- The document's Same of bytes: walked once. No condition but that the rows lie. -/
import Derived.Test.YtodledidabdkaaaDoorC0
namespace Go.Proofs.YtodledidabdkaaaDoor
open Go.RowKit
set_option linter.unusedVariables false
set_option linter.unusedSimpArgs false
theorem foot_rb {A : Option Addr} {n c : Nat} {xs : By} {w : World} (hn : xs.length = n) (h : Sl A n c 1 (u8s xs) w) : Rb (.slice A n c) xs w := ⟨A, c, by rw [hn], by rw [hn]; exact h⟩
theorem bs_ne2 {s t : ByteArray} (h : s ≠ t) : ¬ s.toList = t.toList := fun e => h (by
  rw [ByteArray.toList_eq, ByteArray.toList_eq] at e
  cases s; cases t
  simp only [Array.toList_inj] at e
  subst e; rfl)
set_option maxRecDepth 100000 in
theorem rsame_any (A B : Option Addr) (n c m d : Nat) (xs ys : By) (hx : xs.length = n) (hy : ys.length = m) (w : World) (h1 : Sl A n c 1 (u8s xs) w) (h2 : Sl B m d 1 (u8s ys) w) :
    Calls Tryd.prog 10 #[.slice A n c, .slice B m d] w fun e w' => e = .returned (.bool (decide (xs = ys))) ∧ w = w' := by
  have e1 := run_conv_row (foot_rb hx h1)
  have e2 := run_conv_row (foot_rb hy h2)
  clear h1 h2
  by_cases he : xs = ys
  · have hd : decide (xs = ys) = true := decide_eq_true he
    rw [hd]
    subst he
    clear hd
    go_enter Tryd.func10, Tryd.ntmps10
    go_wp2_with fail
    go_ret
    exact ⟨by simp, rfl⟩
  · have hd : decide (xs = ys) = false := decide_eq_false he
    have n2 : (xs == ys) = false := beq_eq_false_iff_ne.2 he
    rw [hd]
    clear hd he
    go_enter Tryd.func10, Tryd.ntmps10
    go_wp2_with fail
    go_ret
    exact ⟨rfl, rfl⟩
end Go.Proofs.YtodledidabdkaaaDoor
