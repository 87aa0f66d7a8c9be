/- What settle leaves of the buffer, in plain Lean. No program is walked here. -/
import Derived.Test.YtdlbccjimdghkaaED
namespace Go.Proofs.Ytdlbccjimdghkaa
open Go.RowKit
set_option linter.unusedVariables false
/-- the first n bytes of the buffer, write by write -/
def takeB : List (Nm × By) → Nat → List (Nm × By)
  | [], _ => []
  | x :: r, n => (x.1, x.2.take n) :: takeB r (n - min x.2.length n)
theorem aget_upd {κ β : Type} [DecidableEq κ] (F : List (κ × β)) (n k : κ) (f : β → β) : aget (F.map fun y => if y.1 = n then (y.1, f y.2) else y) k = (aget F k).map fun s => if k = n then f s else s := by
  induction F with
  | nil => rfl
  | cons y l ih =>
    unfold aget at ih ⊢
    rw [List.map_cons, List.find?_cons, List.find?_cons]
    have e1 : (if y.1 = n then (y.1, f y.2) else y).1 = y.1 := by split <;> rfl
    rw [e1]
    by_cases h : y.1 = k
    · have hb : (y.1 == k) = true := by simpa using h
      rw [hb]
      simp only [Option.map_some]
      congr 1
      by_cases hn : y.1 = n
      · rw [if_pos hn, if_pos (by rw [← h]; exact hn)]
      · rw [if_neg hn, if_neg (by rw [← h]; exact hn)]
    · have hb : (y.1 == k) = false := by simpa using h
      rw [hb]
      exact ih
theorem aget_addTo (F : List (Nm × By)) (n k : Nm) (b : By) : aget (addTo F n b) k = (aget F k).map fun s => if k = n then s ++ b else s := aget_upd F n k (fun s => s ++ b)
theorem aget_settle : ∀ (B F : List (Nm × By)) (n : Nat) (k : Nm), aget (settleF F B n) k = (aget F k).map fun s => s ++ pieces (takeB B n) k
  | [], F, n, k => by simp [settleF, takeB, pieces]
  | x :: r, F, n, k => by
    rw [settleF, aget_settle r, aget_addTo, Option.map_map]
    congr 1
    funext s
    simp only [Function.comp, takeB, pieces, List.flatMap_cons]
    by_cases h : k = x.1
    · rw [if_pos h, if_pos h.symm, List.append_assoc]
    · rw [if_neg h, if_neg (fun e => h e.symm), List.nil_append]
theorem settleF_keys : ∀ (B F : List (Nm × By)) (n : Nat), (settleF F B n).map (·.1) = F.map (·.1)
  | [], F, n => rfl
  | x :: r, F, n => by rw [settleF, settleF_keys r, addTo_keys]
theorem pend_cons (x : Nm × By) (r : List (Nm × By)) : pend (x :: r) = x.2.length + pend r := by simp [pend]
theorem pend_takeB : ∀ (B : List (Nm × By)) (n : Nat), pend (takeB B n) = min n (pend B)
  | [], n => by simp [takeB, pend]
  | x :: r, n => by
    rw [takeB, pend_cons, pend_cons, pend_takeB r, List.length_take]
    omega
theorem takeB_all : ∀ (B : List (Nm × By)) (n : Nat), pend B ≤ n → takeB B n = B
  | [], n, _ => rfl
  | x :: r, n, h => by
    rw [pend_cons] at h
    rw [takeB, takeB_all r _ (by omega), List.take_of_length_le (by omega)]
theorem pieces_len (B : List (Nm × By)) (n : Nm) : (pieces B n).length = moreOf B n := by
  induction B with
  | nil => rfl
  | cons x l ih =>
    simp only [pieces, List.flatMap_cons, List.length_append, moreOf] at ih ⊢
    rw [ih]
    split <;> rfl
theorem pieces_pre : ∀ (B : List (Nm × By)) (n : Nat) (k : Nm), pieces (takeB B n) k <+: pieces B k
  | [], n, k => List.prefix_refl _
  | x :: r, n, k => by
    simp only [takeB, pieces, List.flatMap_cons]
    by_cases h : x.1 = k
    · rw [if_pos h, if_pos h]
      by_cases hl : x.2.length ≤ n
      · rw [List.take_of_length_le hl]
        exact (List.prefix_append_right_inj x.2).2 (pieces_pre r _ k)
      · have : n - min x.2.length n = 0 := by omega
        rw [this]
        have h0 : pieces (takeB r 0) k = [] := by
          have := pend_takeB r 0
          have h2 := pieces_le (takeB r 0) k
          exact List.eq_nil_of_length_eq_zero (by omega)
        unfold pieces at h0
        rw [h0, List.append_nil]
        exact (List.take_prefix n x.2).trans (List.prefix_append _ _)
    · rw [if_neg h, if_neg h, List.nil_append, List.nil_append]
      exact pieces_pre r _ k
theorem takeB_names : ∀ (B : List (Nm × By)) (n : Nat) (x : Nm × By), x ∈ takeB B n → ∃ y ∈ B, y.1 = x.1
  | [], n, x, h => by cases h
  | y :: r, n, x, h => by
    rw [takeB] at h
    cases h with
    | head => exact ⟨y, List.mem_cons_self .., rfl⟩
    | tail _ h => obtain ⟨z, h1, h2⟩ := takeB_names r _ x h; exact ⟨z, List.mem_cons_of_mem _ h1, h2⟩
theorem sum_moreOf {T : List (Nm × By)} {ds : List Nm} (hn : ds.Nodup) (h : ∀ x ∈ T, x.1 ∈ ds) : (ds.map fun n => moreOf T n).sum = pend T := by
  induction T with
  | nil =>
    have : ∀ l : List Nm, (l.map fun _ => 0).sum = 0 := fun l => by induction l <;> simp_all
    exact this ds
  | cons x T ih =>
    have h1 := ih fun y hy => h y (List.mem_cons_of_mem _ hy)
    have h2 := h x (List.mem_cons_self ..)
    rw [pend_cons, ← h1]
    clear ih h1 h
    induction ds with
    | nil => cases h2
    | cons d ds ih =>
      obtain ⟨hd, hn⟩ := List.nodup_cons.1 hn
      simp only [List.map_cons, List.sum_cons, moreOf]
      by_cases e : x.1 = d
      · have : (ds.map fun n => (if x.1 = n then x.2.length else 0) + moreOf T n) = ds.map fun n => moreOf T n := by
          apply List.map_congr_left
          intro n hm
          rw [if_neg (fun e2 => hd (by rw [← e, e2]; exact hm)), Nat.zero_add]
        rw [if_pos e, this]
        omega
      · have h3 : x.1 ∈ ds := by
          cases h2 with
          | head => exact absurd rfl e
          | tail _ h => exact h
        have := ih hn h3
        simp only [moreOf] at this
        rw [if_neg e]
        omega
/-- does it stand among the first i? -/
def again (names : List Nm) (i : Nat) (s : Nm) : Bool := (names.take i).any fun t => decide (s = t)
theorem again_iff {names : List Nm} {i : Nat} {s : Nm} : again names i s = true ↔ s ∈ names.take i := by
  unfold again
  rw [List.any_eq_true]
  constructor
  · rintro ⟨t, h1, h2⟩
    rw [of_decide_eq_true h2]; exact h1
  · exact fun h => ⟨s, h, decide_eq_true rfl⟩
theorem again_not {names : List Nm} {i : Nat} {s : Nm} (h : s ∉ names.take i) : again names i s = false := by
  cases hb : again names i s with
  | false => rfl
  | true => exact absurd (again_iff.1 hb) h
/-- the good names, each where it first stands, of the first i -/
def firsts (names : List Nm) : Nat → List Nm
  | 0 => []
  | i + 1 => firsts names i ++ (match names[i]? with
    | none => []
    | some s => if goodB s && !again names i s then [s] else [])
theorem firsts_mem (names : List Nm) : ∀ (i : Nat) (s : Nm), s ∈ firsts names i ↔ s ∈ names.take i ∧ goodB s = true
  | 0, s => by simp [firsts]
  | i + 1, s => by
    rw [firsts, List.mem_append, firsts_mem names i s, List.take_add_one, List.mem_append]
    cases h : names[i]? with
    | none => simp
    | some t =>
      simp only [Option.toList_some, List.mem_singleton]
      by_cases hg : goodB t = true
      · by_cases hc : t ∈ names.take i
        · have : again names i t = true := again_iff.2 hc
          rw [this]
          simp only [hg, Bool.not_true, Bool.and_false, Bool.false_eq_true, if_false, List.not_mem_nil, or_false]
          constructor
          · rintro ⟨h1, h2⟩; exact ⟨.inl h1, h2⟩
          · rintro ⟨h1 | rfl, h2⟩
            · exact ⟨h1, h2⟩
            · exact ⟨hc, h2⟩
        · have : again names i t = false := again_not hc
          rw [this]
          simp only [hg, Bool.not_false, Bool.and_true, if_true, List.mem_singleton]
          constructor
          · rintro (⟨h1, h2⟩ | rfl)
            · exact ⟨.inl h1, h2⟩
            · exact ⟨.inr rfl, hg⟩
          · rintro ⟨h1 | rfl, h2⟩
            · exact .inl ⟨h1, h2⟩
            · exact .inr rfl
      · simp only [hg, Bool.false_and, Bool.false_eq_true, if_false, List.not_mem_nil, or_false]
        constructor
        · rintro ⟨h1, h2⟩; exact ⟨.inl h1, h2⟩
        · rintro ⟨h1 | rfl, h2⟩
          · exact ⟨h1, h2⟩
          · exact absurd h2 hg
theorem firsts_nodup (names : List Nm) : ∀ i, (firsts names i).Nodup
  | 0 => List.nodup_nil
  | i + 1 => by
    rw [firsts]
    cases h : names[i]? with
    | none => simpa using firsts_nodup names i
    | some t =>
      simp only
      split
      · rename_i hc
        simp only [Bool.and_eq_true, Bool.not_eq_true', ] at hc
        rw [List.nodup_append]
        refine ⟨firsts_nodup names i, by simp, fun a ha b hb e => ?_⟩
        simp only [List.mem_singleton] at hb
        subst hb e
        have := ((firsts_mem names i a).1 ha).1
        rw [again_iff.2 this] at hc
        exact absurd hc.2 (by decide)
      · simpa using firsts_nodup names i
end Go.Proofs.Ytdlbccjimdghkaa
