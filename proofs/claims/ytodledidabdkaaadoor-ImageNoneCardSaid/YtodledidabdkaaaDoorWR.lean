/- The document's example of a map: plain words, with no program in sight. No condition. -/
import Derived.Test.YtodledidabdkaaaDoorVE
namespace Go.Proofs.YtodledidabdkaaaDoor.V
set_option linter.unusedVariables false
set_option linter.unusedSimpArgs false
def txA : Tx := ⟨#[97]⟩
def txB : Tx := ⟨#[98]⟩
def tx1 : Tx := ⟨#[49]⟩
def tx2 : Tx := ⟨#[50]⟩
theorem put_lt {H : Tx → Nat} {M : Mp} (hI : Inv H M) (k v : Tx) (hc : M.cnt < 2000) : Inv H (putP H M k v).1 ∧ (putP H M k v).1.cnt ≤ M.cnt + 1 ∧ ∀ k' v', Has (putP H M k v).1 k' v' ↔ (k' = k ∧ v' = v) ∨ (k' ≠ k ∧ Has M k' v') := by
  obtain ⟨h1, h2⟩ := put_inv hI k v
  rcases h2 with ⟨_, h, _⟩ | ⟨_, _, h3, h4⟩
  · omega
  · refine ⟨h1, ?_, h4⟩
    rw [h3]; split <;> omega
theorem lives_pairs (H : Tx → Nat) : Inv H (putP H (putP H (madeP 1) txB tx2).1 txA tx1).1 ∧ pairsP (putP H (putP H (madeP 1) txB tx2).1 txA tx1).1 = [(txA, tx1), (txB, tx2)] := by
  obtain ⟨i0, _, c0, _, n0⟩ := made_inv H (k := 0) (by omega)
  rw [show 2 ^ 0 = 1 from rfl] at i0 c0 n0
  obtain ⟨i1, c1, m1⟩ := put_lt i0 txB tx2 (by omega)
  obtain ⟨i2, c2, m2⟩ := put_lt i1 txA tx1 (by omega)
  refine ⟨i2, pairs_of i2 ?_ ?_⟩
  · unfold Srt
    refine List.Pairwise.cons ?_ (List.pairwise_singleton _ _)
    intro x hx
    rw [List.mem_singleton] at hx
    subst hx
    decide
  · intro k v
    rw [m2, m1]
    have hab : txB ≠ txA := by intro h; have := congrArg bl h; revert this; decide
    constructor
    · intro h
      rcases List.mem_cons.1 h with e | h
      · injection e with e1 e2; exact .inl ⟨e1, e2⟩
      · rw [List.mem_singleton] at h
        injection h with e1 e2
        exact .inr ⟨by rw [e1]; exact hab, .inl ⟨e1, e2⟩⟩
    · rintro (⟨rfl, rfl⟩ | ⟨_, ⟨rfl, rfl⟩ | ⟨_, h⟩⟩)
      · exact List.mem_cons_self ..
      · exact List.mem_cons_of_mem _ (List.mem_cons_self ..)
      · exact absurd h (n0 _ _)
end Go.Proofs.YtodledidabdkaaaDoor.V
