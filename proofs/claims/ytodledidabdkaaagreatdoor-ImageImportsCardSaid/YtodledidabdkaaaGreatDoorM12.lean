/- Pairs put one by one; a map's bytes tell its pairs: plain words, with no program in sight. No condition. Maps filled by rows of pairs, told by their pairs: plain words, with no program in sight. No condition. -/
import Derived.Test.YtodledidabdkaaaGreatDoorM11
set_option linter.unusedVariables false
set_option linter.unusedSimpArgs false
namespace Go.Proofs.YtodledidabdkaaaGreatDoor.V
set_option linter.unusedVariables false
set_option linter.unusedSimpArgs false
/-- the map behind pairs that are put one by one -/
def putsP (H : Tx → Nat) (M : Mp) : List Slot → Mp
  | [] => M
  | p :: r => putsP H (putP H M p.1 p.2).1 r
theorem puts_append (H : Tx → Nat) : ∀ (M : Mp) (a b : List Slot), putsP H M (a ++ b) = putsP H (putsP H M a) b
  | M, [], b => rfl
  | M, p :: r, b => by
    rw [List.cons_append]
    exact puts_append H _ r b
theorem puts_take {H : Tx → Nat} {M : Mp} {l : List Slot} {k : Nat} {p : Slot} (h : l[k]? = some p) : putsP H M (l.take (k + 1)) = (putP H (putsP H M (l.take k)) p.1 p.2).1 := by
  rw [List.take_add_one, h, puts_append]
  rfl
theorem put_has {H : Tx → Nat} {M : Mp} (hI : Inv H M) {k v k' v' : Tx} (h : Has (putP H M k v).1 k' v') : Has M k' v' ∨ (k', v') = (k, v) := by
  obtain ⟨_, h2⟩ := put_inv hI k v
  rcases h2 with ⟨e, _, _⟩ | ⟨_, _, _, h4⟩
  · rw [e] at h; exact .inl h
  · rcases (h4 k' v').1 h with ⟨rfl, rfl⟩ | ⟨_, h⟩
    · exact .inr rfl
    · exact .inl h
theorem puts_inv {H : Tx → Nat} : ∀ {l : List Slot} {M : Mp}, Inv H M → Inv H (putsP H M l)
  | [], _, h => h
  | p :: r, _, h => puts_inv (l := r) (put_inv h p.1 p.2).1
theorem puts_has {H : Tx → Nat} : ∀ {l : List Slot} {M : Mp}, Inv H M → ∀ {k v : Tx}, Has (putsP H M l) k v → Has M k v ∨ (k, v) ∈ l
  | [], _, _, _, _, h => .inl h
  | p :: r, M, hI, k, v, h => by
    rcases puts_has (l := r) (put_inv hI p.1 p.2).1 h with h1 | h1
    · rcases put_has hI h1 with h2 | h2
      · exact .inl h2
      · exact .inr (h2 ▸ List.mem_cons_self ..)
    · exact .inr (List.mem_cons_of_mem _ h1)
/-- are there not more pairs, with longer texts, than are looked at? -/
def fewGo : Nat → List Slot → Bool
  | _, [] => true
  | n, p :: r => if 300 < n + (1 + (p.1.size + p.2.size) / 50) then false else fewGo (n + (1 + (p.1.size + p.2.size) / 50)) r
theorem few_le : ∀ {l : List Slot} {n : Nat}, fewGo n l = true → n ≤ 300 → n + l.length ≤ 300 ∧ ∀ x ∈ l, x.1.size + x.2.size ≤ 15000
  | [], n, _, hn => ⟨by simpa using hn, by simp⟩
  | p :: r, n, h, hn => by
    rw [fewGo] at h
    split at h
    · cases h
    · rename_i hle
      obtain ⟨h1, h2⟩ := few_le h (by omega)
      refine ⟨by rw [List.length_cons]; omega, fun x hx => ?_⟩
      rcases List.mem_cons.1 hx with rfl | hx
      · omega
      · exact h2 x hx
end Go.Proofs.YtodledidabdkaaaGreatDoor.V

namespace Go.Proofs.YtodledidabdkaaaGreatDoor.V
set_option linter.unusedVariables false
set_option linter.unusedSimpArgs false
/-- the last value that a row gives a key -/
def lastP : List Slot → Tx → Option Tx
  | [], _ => none
  | p :: r, k => match lastP r k with
    | some v => some v
    | none => if p.1 = k then some p.2 else none
theorem puts_get {H : Tx → Nat} : ∀ (l : List Slot) (M : Mp), Inv H M → M.cnt + l.length ≤ 2000 → (putsP H M l).cnt ≤ M.cnt + l.length ∧ ∀ k v, Has (putsP H M l) k v ↔ lastP l k = some v ∨ (lastP l k = none ∧ Has M k v)
  | [], M, hI, _ => ⟨Nat.le_refl _, fun k v => by simp [putsP, lastP]⟩
  | p :: r, M, hI, hc => by
    rw [List.length_cons] at hc ⊢
    obtain ⟨i1, c1, m1⟩ := put_lt hI p.1 p.2 (by omega)
    obtain ⟨c2, m2⟩ := puts_get r _ i1 (by omega)
    refine ⟨Nat.le_trans c2 (by omega), fun k v => ?_⟩
    rw [putsP, m2, m1, lastP]
    cases lastP r k with
    | some u => simp
    | none =>
      by_cases e : p.1 = k
      · subst e; simp [eq_comm]
      · have e' : ¬ k = p.1 := fun h => e h.symm
        simp [e, e']
/-- maps with the same pairs -/
theorem pairs_eq {H H' : Tx → Nat} {M M' : Mp} (h : Inv H M) (h' : Inv H' M') (e : ∀ k v, Has M k v ↔ Has M' k v) : pairsP M = pairsP M' := srt_unique (pairs_srt h) (pairs_srt h') fun ⟨k, v⟩ => pairs_mem.trans ((e k v).trans pairs_mem.symm)
/-- keys deleted one by one -/
def delsP (H : Tx → Nat) (M : Mp) : List Tx → Mp
  | [] => M
  | k :: r => delsP H (delP H M k).1 r
theorem dels_append (H : Tx → Nat) : ∀ (M : Mp) (a b : List Tx), delsP H M (a ++ b) = delsP H (delsP H M a) b
  | M, [], b => rfl
  | M, p :: r, b => by
    rw [List.cons_append]
    exact dels_append H _ r b
theorem dels_take {H : Tx → Nat} {M : Mp} {l : List Tx} {i : Nat} {k : Tx} (h : l[i]? = some k) : delsP H M (l.take (i + 1)) = (delP H (delsP H M (l.take i)) k).1 := by
  rw [List.take_add_one, h, dels_append]
  rfl
theorem dels_get {H : Tx → Nat} : ∀ (l : List Tx) (M : Mp), Inv H M → Inv H (delsP H M l) ∧ (delsP H M l).cnt ≤ M.cnt ∧ ∀ k v, Has (delsP H M l) k v ↔ k ∉ l ∧ Has M k v
  | [], M, hI => ⟨hI, Nat.le_refl _, fun k v => by simp [delsP]⟩
  | p :: r, M, hI => by
    obtain ⟨i1, _, c1, m1⟩ := del_inv hI p
    obtain ⟨i2, c2, m2⟩ := dels_get r _ i1
    refine ⟨i2, by rw [delsP]; split at c1 <;> omega, fun k v => ?_⟩
    rw [delsP, m2, m1, List.mem_cons]
    constructor
    · rintro ⟨h1, h2, h3⟩
      exact ⟨fun h => h.elim h2 h1, h3⟩
    · rintro ⟨h1, h2⟩
      exact ⟨fun h => h1 (.inr h), fun h => h1 (.inl h), h2⟩
theorem last_mem : ∀ {l : List Slot} {k v : Tx}, lastP l k = some v → (k, v) ∈ l
  | [], k, v, h => by simp [lastP] at h
  | p :: r, k, v, h => by
    rw [lastP] at h
    cases hr : lastP r k with
    | some u =>
      rw [hr] at h
      injection h with h
      subst h
      exact List.mem_cons_of_mem _ (last_mem hr)
    | none =>
      rw [hr] at h
      dsimp only at h
      split at h
      · next e =>
        injection h with h
        subst h
        subst e
        exact List.mem_cons_self ..
      · cases h
theorem last_none : ∀ {l : List Slot} {k : Tx}, lastP l k = none → ∀ v, (k, v) ∉ l
  | [], k, _, v => by simp
  | p :: r, k, h, v => by
    rw [lastP] at h
    cases hr : lastP r k with
    | some u => rw [hr] at h; cases h
    | none =>
      rw [hr] at h
      dsimp only at h
      split at h
      · cases h
      · next e =>
        intro hm
        rcases List.mem_cons.1 hm with e' | hm
        · exact e (by rw [← e'])
        · exact last_none hr v hm
theorem last_srt {l : List Slot} (hs : Srt l) (k v : Tx) : lastP l k = some v ↔ (k, v) ∈ l := by
  constructor
  · exact last_mem
  · intro h
    cases hr : lastP l k with
    | none => exact absurd h (last_none hr v)
    | some u => rw [srt_key hs (last_mem hr) h]
/-- a sorted row of pairs, put into an empty map, is that map's pairs -/
theorem puts_srt {H : Tx → Nat} {k : Nat} (hk : k ≤ 10) {l : List Slot} (hs : Srt l) (hl : l.length ≤ 2000) : pairsP (putsP H (madeP (2 ^ k)) l) = l := by
  obtain ⟨i0, _, c0, _, n0⟩ := made_inv H hk
  obtain ⟨_, m⟩ := puts_get l _ i0 (by omega)
  refine pairs_of (puts_inv i0) hs fun a b => ?_
  rw [m, last_srt hs]
  constructor
  · exact .inl
  · rintro (h | ⟨_, h⟩)
    · exact h
    · exact absurd h (n0 a b)
/-- the pairs that a map of puts holds -/
theorem puts_made {H : Tx → Nat} {k : Nat} (hk : k ≤ 10) {l : List Slot} (hl : l.length ≤ 2000) : (putsP H (madeP (2 ^ k)) l).cnt ≤ l.length ∧ ∀ a b, Has (putsP H (madeP (2 ^ k)) l) a b ↔ lastP l a = some b := by
  obtain ⟨i0, _, c0, _, n0⟩ := made_inv H hk
  obtain ⟨c, m⟩ := puts_get l _ i0 (by omega)
  refine ⟨by omega, fun a b => ?_⟩
  rw [m]
  constructor
  · rintro (h | ⟨_, h⟩)
    · exact h
    · exact absurd h (n0 a b)
  · exact .inl
end Go.Proofs.YtodledidabdkaaaGreatDoor.V
