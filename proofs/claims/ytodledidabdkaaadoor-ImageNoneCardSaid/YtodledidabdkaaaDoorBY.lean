/- Rows of bytes, and own rows: what they are, and what keeps them. No condition. -/
import Derived.Test.YtodledidabdkaaaDoorK0
namespace Go.Proofs.YtodledidabdkaaaDoor
open Go.RowKit
set_option linter.unusedVariables false
theorem el8 : El Tryd.prog 33 5 1 1 (.int .u8 0) := ⟨Tryd.underlying33, by kernel_rfl, rfl, by decide, by decide⟩
abbrev By := List UInt8
def u8s (l : By) : List Value := l.map fun x => .int .u8 x.toNat
theorem u8s_one (l : By) : ∀ u ∈ u8s l, u.oneCell' = true := by
  intro u hu
  obtain ⟨x, _, rfl⟩ := List.mem_map.1 hu
  rfl
@[simp] theorem u8s_len (l : By) : (u8s l).length = l.length := by simp [u8s]
theorem u8s_append (a b : By) : u8s (a ++ b) = u8s a ++ u8s b := by simp [u8s]
theorem u8s_take (a : By) (n : Nat) : u8s (a.take n) = (u8s a).take n := by simp [u8s, List.map_take]

theorem own_at {w : World} {base e sz n : Nat} {v : Value} {xs : List Value} (h : w.ownsRow base e sz v n xs) : (v = .slice none 0 0 ∧ n = 0 ∧ xs = []) ∨ ∃ g cap cur, v = .slice (some ⟨g, 0, none⟩) n cap ∧ w.heap[g]? = some (.cells cur e (0, 0)) ∧ base ≤ g ∧ ∀ j u, xs[j]? = some u → w.cell? ⟨g, j, none⟩ = some u := by
  rcases h.2 with ⟨rfl, rfl⟩ | ⟨g, cap, cur, rfl, hb, hg, hn, hc, hs, ht⟩
  · exact .inl ⟨rfl, rfl, List.eq_nil_of_length_eq_zero (by rw [h.1, Nat.zero_mul])⟩
  · refine .inr ⟨g, cap, cur, rfl, hg, hb, fun j u hj => ?_⟩
    rw [blk_cell hg, ← Array.getElem?_toList]
    rw [← ht, List.getElem?_take] at hj
    split at hj
    · exact hj
    · cases hj
theorem own_shape {w : World} {base e sz n : Nat} {v : Value} {xs : List Value} (h : w.ownsRow base e sz v n xs) : ∃ A c, v = .slice A n c := by
  rcases own_at h with ⟨rfl, rfl, _⟩ | ⟨g, cap, _, rfl, _⟩
  · exact ⟨_, _, rfl⟩
  · exact ⟨_, _, rfl⟩
theorem own_kept {S : Nat → Prop} {w w' : World} {base e sz n : Nat} {v : Value} {xs : List Value} (h : w.ownsRow base e sz v n xs) (k : Kp S w w') (hs : ∀ b, v.ownBlock = some b → S b) : w'.ownsRow base e sz v n xs := by
  refine ⟨h.1, ?_⟩
  rcases h.2 with hn | ⟨g, cap, cur, rfl, hb, hg, rest⟩
  · exact .inl hn
  · exact .inr ⟨g, cap, cur, rfl, hb, k.heap hg (hs g rfl), rest⟩
theorem own_sl {w : World} {base e n c k : Nat} {A : Option Addr} {xs : List Value} (h : w.ownsRow base e 1 (.slice A n c) n xs) (hk : k ≤ n) : Sl A k c 1 (xs.take k) w ∧ n ≤ c := by
  have hl := h.1
  rcases h.2 with ⟨e1, e2⟩ | ⟨g, cap, cur, e1, _, hg, hn, _⟩
  · injection e1 with eA _ ec
    subst eA ec e2
    obtain rfl : k = 0 := by omega
    exact ⟨⟨by simp, Nat.le_refl _, fun h => absurd h (by omega)⟩, Nat.le_refl _⟩
  · injection e1 with eA _ ec
    subst eA ec
    refine ⟨⟨by rw [List.length_take]; omega, by omega, fun _ => ⟨g, 0, rfl, fun j u hj => ?_⟩⟩, hn⟩
    rw [Nat.zero_add]
    rcases own_at h with ⟨e1, _⟩ | ⟨g', cap', cur', e1, _, _, hat⟩
    · cases e1
    · injection e1 with e1 _ _
      injection e1 with e1
      injection e1 with e1 _ _
      subst e1
      refine hat j u ?_
      rw [List.getElem?_take] at hj
      split at hj
      · exact hj
      · cases hj
theorem sl_new1 (w : World) (a : Value) (t : TypeId) : Sl (some ⟨w.heap.size, 0, none⟩) 1 1 1 [a] (w.alloc (.cells #[a] t)) := by
  refine ⟨rfl, Nat.le_refl _, fun _ => ⟨_, 0, rfl, fun j u hj => ?_⟩⟩
  rw [Nat.zero_add, blk_cell (blk_new w _)]
  simpa using hj
theorem u8_one1 (k : IntKind) (x : Int) : ∀ u ∈ [Value.int k x], u.oneCell' = true := by
  intro u hu
  simp at hu
  subst hu
  rfl
end Go.Proofs.YtodledidabdkaaaDoor
