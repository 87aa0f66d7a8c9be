import Derived.Test.YtodledidabdkaaaDoorVC
/- Pairs by keys: plain words, with no program in sight. No condition. -/
namespace Go.Proofs.YtodledidabdkaaaDoor.V
set_option linter.unusedVariables false
set_option linter.unusedSimpArgs false
abbrev bl (a : Tx) : List UInt8 := a.data.toList
theorem bl_inj {a b : Tx} (h : bl a = bl b) : a = b := by
  cases a with | mk x => cases b with | mk y => cases x with | mk x => cases y with | mk y => simp [bl] at h; rw [h]
/-- by keys, each once -/
def Srt (l : List Slot) : Prop := l.Pairwise fun a b => bl a.1 < bl b.1
theorem lt_ir {a : List UInt8} : ¬ a < a := List.lt_irrefl a
theorem lt_tr {a b c : List UInt8} (h : a < b) (k : b < c) : a < c := List.lt_trans h k
theorem lt_as {a b : List UInt8} (h : a < b) : ¬ b < a := fun k => lt_ir (lt_tr h k)
theorem tri_lt (a b : List UInt8) : a < b ∨ a = b ∨ b < a := by
  by_cases h : a < b
  · exact .inl h
  · by_cases k : b < a
    · exact .inr (.inr k)
    · exact .inr (.inl (List.le_antisymm (List.not_lt.1 k) (List.not_lt.1 h)))
theorem srt_unique : ∀ {l m : List Slot}, Srt l → Srt m → (∀ x, x ∈ l ↔ x ∈ m) → l = m
  | [], [], _, _, _ => rfl
  | [], b :: m, _, _, h => by have := (h b).2 (List.mem_cons_self ..); cases this
  | a :: l, [], _, _, h => by have := (h a).1 (List.mem_cons_self ..); cases this
  | a :: l, b :: m, hl, hm, h => by
    have ha := List.pairwise_cons.1 hl
    have hb := List.pairwise_cons.1 hm
    have hab : a = b := by
      rcases List.mem_cons.1 ((h a).1 (List.mem_cons_self ..)) with e | h1
      · exact e
      · rcases List.mem_cons.1 ((h b).2 (List.mem_cons_self ..)) with e | h2
        · exact e.symm
        · exact absurd (ha.1 _ h2) (lt_as (hb.1 _ h1))
    subst hab
    rw [srt_unique ha.2 hb.2 fun x => ?_]
    constructor
    · intro hx
      rcases List.mem_cons.1 ((h x).1 (List.mem_cons_of_mem _ hx)) with e | h1
      · subst e; exact absurd (ha.1 _ hx) lt_ir
      · exact h1
    · intro hx
      rcases List.mem_cons.1 ((h x).2 (List.mem_cons_of_mem _ hx)) with e | h1
      · subst e; exact absurd (hb.1 _ hx) lt_ir
      · exact h1
theorem srt_key {l : List Slot} (h : Srt l) {k v v' : Tx} (h1 : (k, v) ∈ l) (h2 : (k, v') ∈ l) : v = v' := by
  induction l with
  | nil => cases h1
  | cons a l ih =>
    have ha := List.pairwise_cons.1 h
    rcases List.mem_cons.1 h1 with e1 | h1 <;> rcases List.mem_cons.1 h2 with e2 | h2
    · rw [← e1] at e2; exact (congrArg Prod.snd e2).symm
    · exact absurd (e1 ▸ ha.1 _ h2) lt_ir
    · exact absurd (e2 ▸ ha.1 _ h1) lt_ir
    · exact ih ha.2 h1 h2
/-- the pairs of a map by keys -/
def pairsP (M : Mp) : List Slot := (fullP M).mergeSort fun a b => decide (bl a.1 ≤ bl b.1)
theorem sort_srt {l m : List Slot} (hp : m.Perm l) (hk : l.Pairwise fun a b => a.1 ≠ b.1) (hs : m.Pairwise fun a b => ¬ bl b.1 < bl a.1) : Srt m := by
  have hk' : m.Pairwise fun a b => a.1 ≠ b.1 := (hp.pairwise_iff (fun h => Ne.symm h)).2 hk
  refine (hk'.and hs).imp ?_
  rintro a b ⟨h1, h2⟩
  rcases tri_lt (bl a.1) (bl b.1) with h | h | h
  · exact h
  · exact absurd (bl_inj h) h1
  · exact absurd h h2
theorem pairs_srt {H : Tx → Nat} {M : Mp} (hI : Inv H M) : Srt (pairsP M) := by
  refine sort_srt (List.mergeSort_perm _ _) (full_nodup hI) ?_
  have := List.pairwise_mergeSort (le := fun a b : Slot => decide (bl a.1 ≤ bl b.1)) (fun a b c h1 h2 => by
    simp only [decide_eq_true_eq] at *
    exact List.le_trans h1 h2) (fun a b => by
    simp only [Bool.or_eq_true, decide_eq_true_eq]
    exact List.le_total _ _) (fullP M)
  refine this.imp ?_
  intro a b h hn
  simp only [decide_eq_true_eq] at h
  exact h hn
theorem pairs_mem {M : Mp} {k v : Tx} : (k, v) ∈ pairsP M ↔ Has M k v := by
  unfold pairsP
  rw [(List.mergeSort_perm _ _).mem_iff, mem_full]
theorem pairs_len {M : Mp} (hs : M.slots.length = M.ctrl.length) : (pairsP M).length = M.cnt := by
  unfold pairsP
  rw [(List.mergeSort_perm _ _).length_eq, full_len hs]
/-- what is sorted, and has a map's pairs, is its pairs -/
theorem pairs_of {H : Tx → Nat} {M : Mp} (hI : Inv H M) {l : List Slot} (hs : Srt l) (h : ∀ k v, (k, v) ∈ l ↔ Has M k v) : pairsP M = l :=
  srt_unique (pairs_srt hI) hs fun x => by
    obtain ⟨k, v⟩ := x
    rw [pairs_mem, h]
theorem pairs_sort {H : Tx → Nat} {M : Mp} (hI : Inv H M) {l m : List Slot} (hl : l.Perm (fullP M)) (hp : m.Perm l) (hs : m.Pairwise fun a b => ¬ bl b.1 < bl a.1) : m = pairsP M :=
  (pairs_of hI (sort_srt (hp.trans hl) (full_nodup hI) hs) fun k v => by rw [(hp.trans hl).mem_iff, mem_full]).symm
/-- those of a range -/
def inR (lo hi : Tx) (p : Slot) : Bool := !decide (bl p.1 < bl lo) && (decide (hi = ByteArray.empty) || decide (bl p.1 < bl hi))
def rangeP (l : List Slot) (lo hi : Tx) (n : Int) : List Slot := (l.filter (inR lo hi)).take (max n 0).toNat
end Go.Proofs.YtodledidabdkaaaDoor.V
