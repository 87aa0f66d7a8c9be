/- Pairs put one by one; a map's bytes tell its pairs: plain words, with no program in sight. No condition. Maps filled by rows of pairs, told by their pairs: plain words, with no program in sight. No condition. Two ranges that meet tell all the pairs: plain words. No condition but that the pairs are by keys, and not too many. A map with a past tells what a map without one tells: plain words, with no program in sight. No condition but that the pairs are few. -/
import Derived.Test.YtodledidabdkaaaDoorM11
set_option linter.unusedVariables false
set_option linter.unusedSimpArgs false
namespace Go.Proofs.YtodledidabdkaaaDoor.V
set_option linter.unusedVariables false
set_option linter.unusedSimpArgs false
/-- the map behind pairs that are put one by one -/
def putsP (H : Tx → Nat) (M : Mp) : List Slot → Mp
  | [] => M
  | p :: r => putsP H (putP H M p.1 p.2).1 r
theorem puts_append (H : Tx → Nat) : ∀ (M : Mp) (a b : List Slot), putsP H M (a ++ b) = putsP H (putsP H M a) b
  | M, [], b => rfl
  | M, p :: r, b => by
    rw [List.cons_append]
    exact puts_append H _ r b
theorem puts_take {H : Tx → Nat} {M : Mp} {l : List Slot} {k : Nat} {p : Slot} (h : l[k]? = some p) : putsP H M (l.take (k + 1)) = (putP H (putsP H M (l.take k)) p.1 p.2).1 := by
  rw [List.take_add_one, h, puts_append]
  rfl
theorem put_has {H : Tx → Nat} {M : Mp} (hI : Inv H M) {k v k' v' : Tx} (h : Has (putP H M k v).1 k' v') : Has M k' v' ∨ (k', v') = (k, v) := by
  obtain ⟨_, h2⟩ := put_inv hI k v
  rcases h2 with ⟨e, _, _⟩ | ⟨_, _, _, h4⟩
  · rw [e] at h; exact .inl h
  · rcases (h4 k' v').1 h with ⟨rfl, rfl⟩ | ⟨_, h⟩
    · exact .inr rfl
    · exact .inl h
theorem puts_inv {H : Tx → Nat} : ∀ {l : List Slot} {M : Mp}, Inv H M → Inv H (putsP H M l)
  | [], _, h => h
  | p :: r, _, h => puts_inv (l := r) (put_inv h p.1 p.2).1
theorem puts_has {H : Tx → Nat} : ∀ {l : List Slot} {M : Mp}, Inv H M → ∀ {k v : Tx}, Has (putsP H M l) k v → Has M k v ∨ (k, v) ∈ l
  | [], _, _, _, _, h => .inl h
  | p :: r, M, hI, k, v, h => by
    rcases puts_has (l := r) (put_inv hI p.1 p.2).1 h with h1 | h1
    · rcases put_has hI h1 with h2 | h2
      · exact .inl h2
      · exact .inr (h2 ▸ List.mem_cons_self ..)
    · exact .inr (List.mem_cons_of_mem _ h1)
/-- are there not more pairs, with longer texts, than are looked at? -/
def fewGo : Nat → List Slot → Bool
  | _, [] => true
  | n, p :: r => if 300 < n + (1 + (p.1.size + p.2.size) / 50) then false else fewGo (n + (1 + (p.1.size + p.2.size) / 50)) r
theorem few_le : ∀ {l : List Slot} {n : Nat}, fewGo n l = true → n ≤ 300 → n + l.length ≤ 300 ∧ ∀ x ∈ l, x.1.size + x.2.size ≤ 15000
  | [], n, _, hn => ⟨by simpa using hn, by simp⟩
  | p :: r, n, h, hn => by
    rw [fewGo] at h
    split at h
    · cases h
    · rename_i hle
      obtain ⟨h1, h2⟩ := few_le h (by omega)
      refine ⟨by rw [List.length_cons]; omega, fun x hx => ?_⟩
      rcases List.mem_cons.1 hx with rfl | hx
      · omega
      · exact h2 x hx
end Go.Proofs.YtodledidabdkaaaDoor.V

namespace Go.Proofs.YtodledidabdkaaaDoor.V
set_option linter.unusedVariables false
set_option linter.unusedSimpArgs false
/-- the last value that a row gives a key -/
def lastP : List Slot → Tx → Option Tx
  | [], _ => none
  | p :: r, k => match lastP r k with
    | some v => some v
    | none => if p.1 = k then some p.2 else none
theorem puts_get {H : Tx → Nat} : ∀ (l : List Slot) (M : Mp), Inv H M → M.cnt + l.length ≤ 2000 → (putsP H M l).cnt ≤ M.cnt + l.length ∧ ∀ k v, Has (putsP H M l) k v ↔ lastP l k = some v ∨ (lastP l k = none ∧ Has M k v)
  | [], M, hI, _ => ⟨Nat.le_refl _, fun k v => by simp [putsP, lastP]⟩
  | p :: r, M, hI, hc => by
    rw [List.length_cons] at hc ⊢
    obtain ⟨i1, c1, m1⟩ := put_lt hI p.1 p.2 (by omega)
    obtain ⟨c2, m2⟩ := puts_get r _ i1 (by omega)
    refine ⟨Nat.le_trans c2 (by omega), fun k v => ?_⟩
    rw [putsP, m2, m1, lastP]
    cases lastP r k with
    | some u => simp
    | none =>
      by_cases e : p.1 = k
      · subst e; simp [eq_comm]
      · have e' : ¬ k = p.1 := fun h => e h.symm
        simp [e, e']
/-- maps with the same pairs -/
theorem pairs_eq {H H' : Tx → Nat} {M M' : Mp} (h : Inv H M) (h' : Inv H' M') (e : ∀ k v, Has M k v ↔ Has M' k v) : pairsP M = pairsP M' := srt_unique (pairs_srt h) (pairs_srt h') fun ⟨k, v⟩ => pairs_mem.trans ((e k v).trans pairs_mem.symm)
/-- keys deleted one by one -/
def delsP (H : Tx → Nat) (M : Mp) : List Tx → Mp
  | [] => M
  | k :: r => delsP H (delP H M k).1 r
theorem dels_append (H : Tx → Nat) : ∀ (M : Mp) (a b : List Tx), delsP H M (a ++ b) = delsP H (delsP H M a) b
  | M, [], b => rfl
  | M, p :: r, b => by
    rw [List.cons_append]
    exact dels_append H _ r b
theorem dels_take {H : Tx → Nat} {M : Mp} {l : List Tx} {i : Nat} {k : Tx} (h : l[i]? = some k) : delsP H M (l.take (i + 1)) = (delP H (delsP H M (l.take i)) k).1 := by
  rw [List.take_add_one, h, dels_append]
  rfl
theorem dels_get {H : Tx → Nat} : ∀ (l : List Tx) (M : Mp), Inv H M → Inv H (delsP H M l) ∧ (delsP H M l).cnt ≤ M.cnt ∧ ∀ k v, Has (delsP H M l) k v ↔ k ∉ l ∧ Has M k v
  | [], M, hI => ⟨hI, Nat.le_refl _, fun k v => by simp [delsP]⟩
  | p :: r, M, hI => by
    obtain ⟨i1, _, c1, m1⟩ := del_inv hI p
    obtain ⟨i2, c2, m2⟩ := dels_get r _ i1
    refine ⟨i2, by rw [delsP]; split at c1 <;> omega, fun k v => ?_⟩
    rw [delsP, m2, m1, List.mem_cons]
    constructor
    · rintro ⟨h1, h2, h3⟩
      exact ⟨fun h => h.elim h2 h1, h3⟩
    · rintro ⟨h1, h2⟩
      exact ⟨fun h => h1 (.inr h), fun h => h1 (.inl h), h2⟩
theorem last_mem : ∀ {l : List Slot} {k v : Tx}, lastP l k = some v → (k, v) ∈ l
  | [], k, v, h => by simp [lastP] at h
  | p :: r, k, v, h => by
    rw [lastP] at h
    cases hr : lastP r k with
    | some u =>
      rw [hr] at h
      injection h with h
      subst h
      exact List.mem_cons_of_mem _ (last_mem hr)
    | none =>
      rw [hr] at h
      dsimp only at h
      split at h
      · next e =>
        injection h with h
        subst h
        subst e
        exact List.mem_cons_self ..
      · cases h
theorem last_none : ∀ {l : List Slot} {k : Tx}, lastP l k = none → ∀ v, (k, v) ∉ l
  | [], k, _, v => by simp
  | p :: r, k, h, v => by
    rw [lastP] at h
    cases hr : lastP r k with
    | some u => rw [hr] at h; cases h
    | none =>
      rw [hr] at h
      dsimp only at h
      split at h
      · cases h
      · next e =>
        intro hm
        rcases List.mem_cons.1 hm with e' | hm
        · exact e (by rw [← e'])
        · exact last_none hr v hm
theorem last_srt {l : List Slot} (hs : Srt l) (k v : Tx) : lastP l k = some v ↔ (k, v) ∈ l := by
  constructor
  · exact last_mem
  · intro h
    cases hr : lastP l k with
    | none => exact absurd h (last_none hr v)
    | some u => rw [srt_key hs (last_mem hr) h]
/-- a sorted row of pairs, put into an empty map, is that map's pairs -/
theorem puts_srt {H : Tx → Nat} {k : Nat} (hk : k ≤ 10) {l : List Slot} (hs : Srt l) (hl : l.length ≤ 2000) : pairsP (putsP H (madeP (2 ^ k)) l) = l := by
  obtain ⟨i0, _, c0, _, n0⟩ := made_inv H hk
  obtain ⟨_, m⟩ := puts_get l _ i0 (by omega)
  refine pairs_of (puts_inv i0) hs fun a b => ?_
  rw [m, last_srt hs]
  constructor
  · exact .inl
  · rintro (h | ⟨_, h⟩)
    · exact h
    · exact absurd h (n0 a b)
/-- the pairs that a map of puts holds -/
theorem puts_made {H : Tx → Nat} {k : Nat} (hk : k ≤ 10) {l : List Slot} (hl : l.length ≤ 2000) : (putsP H (madeP (2 ^ k)) l).cnt ≤ l.length ∧ ∀ a b, Has (putsP H (madeP (2 ^ k)) l) a b ↔ lastP l a = some b := by
  obtain ⟨i0, _, c0, _, n0⟩ := made_inv H hk
  obtain ⟨c, m⟩ := puts_get l _ i0 (by omega)
  refine ⟨by omega, fun a b => ?_⟩
  rw [m]
  constructor
  · rintro (h | ⟨_, h⟩)
    · exact h
    · exact absurd h (n0 a b)
  · exact .inl
end Go.Proofs.YtodledidabdkaaaDoor.V

namespace Go.Proofs.YtodledidabdkaaaDoor.V
set_option linter.unusedVariables false
set_option linter.unusedSimpArgs false
theorem flt_split (f : Tx) : ∀ {X : List Slot}, Srt X → X.filter (fun p => decide (bl p.1 < bl f)) ++ X.filter (fun p => !decide (bl p.1 < bl f)) = X
  | [], _ => rfl
  | a :: l, h => by
    obtain ⟨h1, h2⟩ := List.pairwise_cons.1 h
    by_cases ha : bl a.1 < bl f
    · rw [List.filter_cons_of_pos (by simpa using ha), List.filter_cons_of_neg (by simpa using ha), List.cons_append, flt_split f h2]
    · have e1 : l.filter (fun p => decide (bl p.1 < bl f)) = [] := List.filter_eq_nil_iff.2 fun b hb => by
        simp only [decide_eq_true_eq]
        exact fun hn => ha (lt_tr (h1 b hb) hn)
      have e2 : l.filter (fun p => !decide (bl p.1 < bl f)) = l := List.filter_eq_self.2 fun b hb => by
        have : ¬ bl b.1 < bl f := fun hn => ha (lt_tr (h1 b hb) hn)
        simp [this]
      rw [List.filter_cons_of_neg (by simpa using ha), List.filter_cons_of_pos (by simpa using ha), e1, e2]
      rfl
theorem inR_lo (f : Tx) (hf : f ≠ ByteArray.empty) : inR ByteArray.empty f = fun p => decide (bl p.1 < bl f) := by
  funext p
  have h0 : ¬ bl p.1 < bl ByteArray.empty := by
    show ¬ bl p.1 < []
    exact List.not_lt_nil _
  simp [inR, hf, h0]
theorem inR_hi (f : Tx) : inR f ByteArray.empty = fun p => !decide (bl p.1 < bl f) := by
  funext p
  simp [inR]
theorem rng_join {X : List Slot} {f : Tx} (hs : Srt X) (hl : X.length ≤ 1000) (hf : f ≠ ByteArray.empty) : rangeP X ByteArray.empty f 1000 ++ rangeP X f ByteArray.empty 1000 = X := by
  unfold rangeP
  rw [inR_lo f hf, inR_hi f, List.take_of_length_le, List.take_of_length_le, flt_split f hs]
  · exact Nat.le_trans (List.length_filter_le _ _) (by rw [show (max (1000 : Int) 0).toNat = 1000 from by decide]; exact hl)
  · exact Nat.le_trans (List.length_filter_le _ _) (by rw [show (max (1000 : Int) 0).toNat = 1000 from by decide]; exact hl)
theorem rng_zero (X : List Slot) (a b : Tx) : rangeP X a b 0 = [] := by simp [rangeP]
theorem rng_len (X : List Slot) (a b : Tx) (n : Int) : (rangeP X a b n).length ≤ X.length := by
  unfold rangeP
  rw [List.length_take]
  exact Nat.le_trans (Nat.min_le_right _ _) (List.length_filter_le _ _)
end Go.Proofs.YtodledidabdkaaaDoor.V

namespace Go.Proofs.YtodledidabdkaaaDoor.V
set_option linter.unusedVariables false
set_option linter.unusedSimpArgs false
theorem back_eq {H H' : Tx → Nat} {k k' : Nat} (hk : k ≤ 10) (hk' : k' ≤ 10) {l : List Slot} (hl : l.length ≤ 300) (f : Tx → Tx) (e v0 : Tx) :
    pairsP (putsP H (madeP (2 ^ k)) l) = pairsP (putsP H' (putsP H' (delsP H' (putsP H' (madeP (2 ^ k')) (l.map fun x => (f x.1, v0))) (l.map fun x => f x.1)) (l.map fun x => (x.1, e))) l) := by
  obtain ⟨i0, _, c0, _, _⟩ := made_inv H hk
  obtain ⟨j0, _, d0, _, _⟩ := made_inv H' hk'
  obtain ⟨_, m1⟩ := puts_made (H := H) hk (l := l) (by omega)
  obtain ⟨d1, n1⟩ := puts_made (H := H') hk' (l := l.map fun x => (f x.1, v0)) (by simp; omega)
  have j1 := puts_inv (l := l.map fun x => (f x.1, v0)) j0
  obtain ⟨j2, d2, n2⟩ := dels_get (l.map fun x => f x.1) _ j1
  simp only [List.length_map] at d1
  obtain ⟨d3, n3⟩ := puts_get (l.map fun x => (x.1, e)) _ j2 (by simp only [List.length_map]; omega)
  have j3 := puts_inv (l := l.map fun x => (x.1, e)) j2
  simp only [List.length_map] at d3
  obtain ⟨d4, n4⟩ := puts_get l _ j3 (by omega)
  refine pairs_eq (puts_inv i0) (puts_inv j3) fun a b => ?_
  rw [m1, n4]
  constructor
  · exact .inl
  · rintro (h | ⟨h, h3⟩)
    · exact h
    · exfalso
      rw [n3] at h3
      rcases h3 with h3 | ⟨_, h3⟩
      · obtain ⟨x, hx, he⟩ := List.mem_map.1 (last_mem h3)
        have : x.1 = a := congrArg Prod.fst he
        exact last_none h x.2 (by rw [← this]; exact hx)
      · rw [n2, n1] at h3
        obtain ⟨h4, h5⟩ := h3
        obtain ⟨x, hx, he⟩ := List.mem_map.1 (last_mem h5)
        exact h4 (List.mem_map.2 ⟨x, hx, congrArg Prod.fst he⟩)
end Go.Proofs.YtodledidabdkaaaDoor.V
