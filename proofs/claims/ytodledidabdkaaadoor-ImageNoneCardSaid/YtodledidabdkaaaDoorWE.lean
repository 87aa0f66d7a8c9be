/- The pairs' order walked: cmp.Compare on texts, and the closure. No condition. -/
import Derived.Test.YtodledidabdkaaaDoorWD
import Derived.Test.YtodledidabdkaaaDoorWL
namespace Go.Proofs.YtodledidabdkaaaDoor
open Go.RowKit Go.Shelf Go.Sort V
set_option linter.unusedVariables false
set_option linter.unusedSimpArgs false
theorem gtr_str (t : TypeId) (a b : ByteArray) : binOp .gtr t (.string a) (.string b) = pure (.bool !(Op.bytesLess a.toList b.toList || a.toList == b.toList)) := by simp [binOp, Op.stringOp]
attribute [go_sem] gtr_str
theorem geq_str (t : TypeId) (a b : ByteArray) : binOp .geq t (.string a) (.string b) = pure (.bool !(Op.bytesLess a.toList b.toList)) := by simp [binOp, Op.stringOp]
attribute [go_sem] geq_str
def cmpP (a b : Tx) : Int := if bl a < bl b then -1 else if bl b < bl a then 1 else 0
theorem lss_tx (a b : Tx) : Op.bytesLess a.toList b.toList = decide (bl a < bl b) := by rw [bytesLess_eq, ByteArray.toList_eq, ByteArray.toList_eq]
theorem beq_tx (a b : Tx) : (a.toList == b.toList) = decide (bl a = bl b) := by
  rw [ByteArray.toList_eq, ByteArray.toList_eq]
  by_cases h : a.data.toList = b.data.toList
  · rw [decide_eq_true (show bl a = bl b from h)]; exact beq_iff_eq.2 h
  · rw [decide_eq_false (show ¬ bl a = bl b from h)]; exact beq_false_of_ne h
theorem cmps_any (a b : Tx) (w : World) : Calls Tryd.prog 26 #[.string a, .string b] w fun e w' => e = .returned (.int .i64 (cmpP a b)) ∧ w' = w := by
  rcases tri_lt (bl a) (bl b) with h | h | h
  · have h1 : Op.bytesLess a.toList b.toList = true := by rw [lss_tx]; exact decide_eq_true h
    have hc : cmpP a b = -1 := by unfold cmpP; rw [if_pos h]
    rw [hc]
    go_enter Tryd.func26, Tryd.ntmps26
    go_wp2
    all_goals (first | (go_ret; exact ⟨rfl, rfl⟩) | (exfalso; simp_all; done))
  · have h1 : Op.bytesLess a.toList b.toList = false := by rw [lss_tx]; exact decide_eq_false (h ▸ lt_ir)
    have h2 : (a.toList == b.toList) = true := by rw [beq_tx]; exact decide_eq_true h
    have hc : cmpP a b = 0 := by unfold cmpP; rw [if_neg (h ▸ lt_ir), if_neg (h ▸ lt_ir)]
    rw [hc]
    go_enter Tryd.func26, Tryd.ntmps26
    go_wp2
    all_goals (first | (go_ret; exact ⟨rfl, rfl⟩) | (exfalso; simp_all; done))
  · have h1 : Op.bytesLess a.toList b.toList = false := by rw [lss_tx]; exact decide_eq_false (lt_as h)
    have h2 : (a.toList == b.toList) = false := by rw [beq_tx]; exact decide_eq_false fun e => lt_ir (e ▸ h)
    have hc : cmpP a b = 1 := by unfold cmpP; rw [if_neg (lt_as h), if_pos h]
    rw [hc]
    go_enter Tryd.func26, Tryd.ntmps26
    go_wp2
    all_goals (first | (go_ret; exact ⟨rfl, rfl⟩) | (exfalso; simp_all; done))
/-- a pair in cells -/
def enP (p : Slot) : List Value := [.string p.1, .string p.2]
def cfP (a b : Slot) : Int := cmpP a.1 b.1
theorem ipairs1_any (a b : Slot) (w : World) : Calls Tryd.prog 25 (#[.agg (enP a).toArray, .agg (enP b).toArray] ++ #[]) w fun e w' => e = .returned (.int .i64 (cfP a b)) ∧ ∃ q os', w' = grow (w.drewN q) os' := by
  show Calls Tryd.prog 25 #[.agg #[.string a.1, .string a.2], .agg #[.string b.1, .string b.2]] w _
  go_enter Tryd.func25, Tryd.ntmps25
  go_wp2_with fail
  refine (cmps_any a.1 b.1 _).mono ?_
  rintro _ _ ⟨rfl, rfl⟩
  go_wp2_with fail
  go_ret
  exact ⟨rfl, 0, #[_, _], by rw [alloc_eq_grow, alloc_eq_grow, grow_grow]; rfl⟩
end Go.Proofs.YtodledidabdkaaaDoor
