/- DiskKeeps: the disk and what the law keeps beside it, step by step, in plain Lean. No program is walked here. -/
import Derived.Test.YtdlbccjimdghkaaEE
namespace Go.Proofs.Ytdlbccjimdghkaa
open Go.RowKit
set_option linter.unusedVariables false
/-- behind the first k names: empty files -/
structure KD (names : List Nm) (k : Nat) (D : DS) : Prop where
  off : D.off = false
  fails : D.fails = 0
  keep : D.keep = 0
  bl : D.blocks = 100000
  o0 : 0 ≤ D.ops
  o1 : D.ops ≤ k
  B : D.B = []
  F : ∀ x ∈ D.F, x.2 = [] ∧ x.1 ∈ names.take k ∧ goodB x.1 = true
  G : ∀ s ∈ names.take k, goodB s = true → aget D.F s = some []
  len : D.F.length ≤ k
theorem KD.fit {names : List Nm} {k : Nat} {D : DS} (h : KD names k D) : D.fit = true := by rw [DS.fit, h.fails]; rfl
theorem KD.begun {names : List Nm} {k : Nat} {D : DS} (h : KD names k D) : D.begun = { D with ops := D.ops + 1 } := by rw [DS.begun, h.fails]; rfl
theorem KD.used {names : List Nm} {k : Nat} {D : DS} (h : KD names k D) : usedOf D.F D.B ≤ D.F.length := by
  have : ∀ (F : List (Nm × By)), (∀ x ∈ F, x.2 = []) → usedOf F [] ≤ F.length := by
    intro F
    induction F with
    | nil => intro _; simp [usedOf]
    | cons x l ih =>
      intro hx
      have h1 := ih fun y hy => hx y (List.mem_cons_of_mem _ hy)
      have h2 := hx x (List.mem_cons_self ..)
      simp only [usedOf, List.map_cons, List.sum_cons, List.length_cons, h2, List.length_nil, moreOf] at h1 ⊢
      have : needs (0 + 0) = 1 := rfl
      omega
  rw [h.B]
  exact this D.F fun x hx => (h.F x hx).1
theorem adel_len {β : Type} (F : List (Nm × β)) (n : Nm) : (adel F n).length ≤ F.length := List.length_filter_le _ _
theorem aget_snoc {κ β : Type} [DecidableEq κ] {F : List (κ × β)} {n k : κ} {v : β} : aget (F ++ [(n, v)]) k = (aget F k).or (if k = n then some v else none) := by
  unfold aget
  rw [List.find?_append]
  cases hf : F.find? (fun x => x.1 == k) with
  | some y => rfl
  | none =>
    simp only [Option.none_or, Option.map_none]
    by_cases e : k = n
    · subst e; simp
    · have : (n == k) = false := by simpa using fun e2 : n = k => e e2.symm
      rw [List.find?_cons, this]
      simp [e]
theorem KD.create {names : List Nm} {k : Nat} {D : DS} (h : KD names k D) {s : Nm} (hs : names[k]? = some s) (hk : k < 8) : creErr D s = (if goodB s then 0 else 3) ∧ KD names (k + 1) (creD D s) := by
  have hu := h.used
  have hl := h.len
  by_cases hg : goodB s = true
  · have e2 : creD1 D.begun s = { D with ops := D.ops + 1, F := adel D.F s ++ [(s, [])] } := by
      rw [h.begun, creD1]
      cases hf : aget D.F s with
      | some v =>
        show DS.add (DS.gone { D with ops := D.ops + 1 } s) s = _
        unfold DS.add DS.gone
        simp only [h.B]
        rfl
      | none =>
        show createD1 { D with ops := D.ops + 1 } s = _
        have hn : ¬ (D.blocks ≤ (usedOf D.F D.B : Int)) := by rw [h.bl]; omega
        rw [createD1, if_neg hn, adel_none (aget_none hf)]
        rfl
    have e1 : creErr1 D s = 0 := by
      unfold creErr1
      cases hf : aget D.F s with
      | some v => rfl
      | none =>
        have hn : ¬ (D.blocks ≤ (usedOf D.F D.B : Int)) := by rw [h.bl]; omega
        simp only [createErr1, if_neg hn]
    refine ⟨by rw [creErr, h.off, hg, h.fit, e1]; rfl, ?_⟩
    have e3 : creD D s = { D with ops := D.ops + 1, F := adel D.F s ++ [(s, [])] } := by
      rw [← e2]; unfold creD; rw [if_neg (by rw [h.off]; decide), if_pos hg, if_pos h.fit]
    rw [e3]
    have o0 := h.o0; have o1 := h.o1
    refine ⟨h.off, h.fails, h.keep, h.bl, by show 0 ≤ D.ops + 1; omega, by show D.ops + 1 ≤ _; omega, h.B, ?_, ?_, ?_⟩
    · intro x hx
      rcases List.mem_append.1 hx with hx | hx
      · obtain ⟨h1, h2, h3⟩ := h.F x (mem_adel hx)
        exact ⟨h1, by rw [List.take_add_one]; exact List.mem_append_left _ h2, h3⟩
      · simp only [List.mem_singleton] at hx
        subst hx
        exact ⟨rfl, by rw [List.take_add_one, hs]; simp, hg⟩
    · intro t ht hgt
      show aget (adel D.F s ++ [(s, [])]) t = some []
      rw [aget_snoc]
      by_cases e : t = s
      · subst e
        rw [aget_adel_same, if_pos rfl]
        rfl
      · rw [aget_adel_other _ _ _ e]
        rw [List.take_add_one, hs] at ht
        rcases List.mem_append.1 ht with ht | ht
        · rw [h.G t ht hgt]; rfl
        · simp at ht; exact absurd ht e
    · show (adel D.F s ++ [(s, [])]).length ≤ k + 1
      rw [List.length_append]
      have := adel_len D.F s
      simp only [List.length_cons, List.length_nil]
      omega
  · have hg' : goodB s = false := by simpa using hg
    refine ⟨by rw [creErr, h.off, hg']; rfl, ?_⟩
    have e3 : creD D s = D := by unfold creD; rw [if_neg (by rw [h.off]; decide), if_neg hg]
    rw [e3]
    have o1 := h.o1
    refine ⟨h.off, h.fails, h.keep, h.bl, h.o0, by omega, h.B, ?_, ?_, by omega⟩
    · intro x hx
      obtain ⟨h1, h2, h3⟩ := h.F x hx
      exact ⟨h1, by rw [List.take_add_one]; exact List.mem_append_left _ h2, h3⟩
    · intro t ht hgt
      rw [List.take_add_one, hs] at ht
      rcases List.mem_append.1 ht with ht | ht
      · exact h.G t ht hgt
      · simp at ht; subst ht; exact absurd hgt hg

/-- behind j writes of weight T: of each good name what is sure (S), and all (L) -/
structure KW (names : List Nm) (D : DS) (S L : List By) (j T : Nat) : Prop where
  off : D.off = false
  fails : D.fails = 0
  keep : D.keep = 0
  bl : D.blocks = 100000
  o0 : 0 ≤ D.ops
  o1 : D.ops ≤ 8 + j
  bj : D.B.length ≤ j
  len : D.F.length ≤ 8
  keys : ∀ x ∈ D.F, x.1 ∈ names ∧ goodB x.1 = true
  nd : (D.F.map (·.1)).Nodup
  bn : ∀ x ∈ D.B, x.1 ∈ D.F.map (·.1)
  at_ : ∀ (i : Nat) (s : Nm), names[i]? = some s → goodB s = true → ∃ a : By, S[i]? = some a ∧ aget D.F s = some a ∧ L[i]? = some (a ++ pieces D.B s)
  sl : S.length = names.length
  ll : L.length = names.length
  size : ∀ l ∈ L, l.length ≤ 50 * T
theorem KW.fit {names : List Nm} {D : DS} {S L : List By} {j T : Nat} (h : KW names D S L j T) : D.fit = true := by rw [DS.fit, h.fails]; rfl
theorem KW.begun {names : List Nm} {D : DS} {S L : List By} {j T : Nat} (h : KW names D S L j T) : D.begun = { D with ops := D.ops + 1 } := by rw [DS.begun, h.fails]; rfl
theorem KW.ok {names : List Nm} {D : DS} {S L : List By} {j T : Nat} (h : KW names D S L j T) (hj : j ≤ 1000) : D.Ok := ⟨h.o0, by have := h.o1; omega, by rw [h.fails]; decide, by have := h.bj; omega⟩
theorem sum_le_of {l : List Nat} {M : Nat} (h : ∀ x ∈ l, x ≤ M) : l.sum ≤ l.length * M := by
  induction l with
  | nil => simp
  | cons x r ih =>
    have h1 := ih fun y hy => h y (List.mem_cons_of_mem _ hy)
    have h2 := h x (List.mem_cons_self ..)
    rw [List.sum_cons, List.length_cons, Nat.succ_mul]
    omega
theorem KW.used {names : List Nm} {D : DS} {S L : List By} {j T : Nat} (h : KW names D S L j T) : usedOf D.F D.B ≤ 8 * needs (50 * T) := by
  have h1 : usedOf D.F D.B ≤ (D.F.map fun x => needs (x.2.length + moreOf D.B x.1)).length * needs (50 * T) := by
    refine sum_le_of fun y hy => ?_
    obtain ⟨x, hx, rfl⟩ := List.mem_map.1 hy
    obtain ⟨k1, k2⟩ := h.keys x hx
    obtain ⟨i, hi, he⟩ := List.mem_iff_getElem.1 k1
    obtain ⟨a, _, a2, a3⟩ := h.at_ i x.1 (by rw [List.getElem?_eq_getElem hi, he]) k2
    have ha : a = x.2 := key_one h.nd (aget_mem a2) (by cases x; exact hx)
    have hs := h.size _ (List.mem_of_getElem? a3)
    rw [List.length_append, pieces_len, ha] at hs
    unfold needs
    omega
  rw [List.length_map] at h1
  exact Nat.le_trans h1 (Nat.mul_le_mul_right _ h.len)
theorem KD.start {names : List Nm} {D : DS} (h : KD names names.length D) (hl : names.length ≤ 8) (hnd : (D.F.map (·.1)).Nodup) : KW names D (List.replicate names.length []) (List.replicate names.length []) 0 0 where
  off := h.off
  fails := h.fails
  keep := h.keep
  bl := h.bl
  o0 := h.o0
  o1 := by have := h.o1; omega
  bj := by rw [h.B]; exact Nat.le_refl _
  len := Nat.le_trans h.len hl
  keys := fun x hx => by
    obtain ⟨_, h2, h3⟩ := h.F x hx
    exact ⟨List.mem_of_mem_take h2, h3⟩
  nd := hnd
  bn := by rw [h.B]; simp
  at_ := fun i s hs hg => by
    have hi : i < names.length := (List.getElem?_eq_some_iff.1 hs).1
    have hm : s ∈ names.take names.length := by rw [List.take_length]; exact List.mem_of_getElem? hs
    exact ⟨[], by simp [hi], h.G s hm hg, by simp [hi, h.B, pieces]⟩
  sl := by simp
  ll := by simp
  size := fun l hl => by rw [List.eq_of_mem_replicate hl]; simp

theorem KW.sync {names : List Nm} {D : DS} {S L : List By} {j T : Nat} (h : KW names D S L j T) : syncErr D = 0 ∧ KW names (syncD D) L L (j + 1) T ∧ (syncD D).B = [] := by
  have e : syncD D = { D with ops := D.ops + 1, F := settleF D.F D.B (pend D.B), B := [] } := by
    unfold syncD
    rw [if_neg (by rw [h.off]; decide), if_pos h.fit, h.begun]
    rfl
  rw [e]
  have o0 := h.o0; have o1 := h.o1
  refine ⟨by rw [syncErr, h.off, h.fit]; rfl, ⟨h.off, h.fails, h.keep, h.bl, by show 0 ≤ D.ops + 1; omega, by show D.ops + 1 ≤ _; omega, by simp, ?_, ?_, ?_, by simp, ?_, h.ll, h.ll, h.size⟩, rfl⟩
  · show (settleF D.F D.B (pend D.B)).length ≤ 8
    have := congrArg List.length (settleF_keys D.B D.F (pend D.B))
    rw [List.length_map, List.length_map] at this
    rw [this]; exact h.len
  · intro x hx
    have hx' : x.1 ∈ (settleF D.F D.B (pend D.B)).map (·.1) := List.mem_map.2 ⟨x, hx, rfl⟩
    rw [settleF_keys] at hx'
    obtain ⟨y, hy, e⟩ := List.mem_map.1 hx'
    have := h.keys y hy
    rwa [e] at this
  · show ((settleF D.F D.B (pend D.B)).map (·.1)).Nodup
    rw [settleF_keys]; exact h.nd
  · intro i s hs hg
    obtain ⟨a, _, a2, a3⟩ := h.at_ i s hs hg
    refine ⟨_, a3, ?_, ?_⟩
    · show aget (settleF D.F D.B (pend D.B)) s = _
      rw [aget_settle, a2, takeB_all _ _ (Nat.le_refl _)]
      rfl
    · show L[i]? = some (_ ++ pieces [] s)
      rw [a3]; simp [pieces]

/-- all, with the first i names done -/
def updL (names : List Nm) (a : Nm) (d : By) (L : List By) (i : Nat) : List By := L.mapIdx fun k l => if k < i ∧ names[k]? = some a ∧ goodB a = true then l ++ d else l
def there (names : List Nm) (a : Nm) (i : Nat) : Bool := (names.take i).any fun s => decide (s = a) && goodB s
theorem there_iff {names : List Nm} {a : Nm} : there names a names.length = true ↔ a ∈ names ∧ goodB a = true := by
  unfold there
  rw [List.take_length, List.any_eq_true]
  constructor
  · rintro ⟨s, h1, h2⟩
    simp only [Bool.and_eq_true, decide_eq_true_eq] at h2
    obtain ⟨rfl, h3⟩ := h2
    exact ⟨h1, h3⟩
  · rintro ⟨h1, h2⟩
    exact ⟨a, h1, by simp [h2]⟩
theorem KW.app_yes {names : List Nm} {D : DS} {S L : List By} {j T : Nat} (h : KW names D S L j T) {a : Nm} {d : By} {t : Nat} (hd : d.length ≤ 50 * t) (hT : T + t ≤ 300) (hth : there names a names.length = true) :
    appErr D a d = 0 ∧ KW names (appD D a d) S (updL names a d L names.length) (j + 1) (T + t) ∧ pend (appD D a d).B = pend D.B + d.length := by
  obtain ⟨hm, hg⟩ := there_iff.1 hth
  obtain ⟨i0, hi0, he0⟩ := List.mem_iff_getElem.1 hm
  obtain ⟨s, _, s2, s3⟩ := h.at_ i0 a (by rw [List.getElem?_eq_getElem hi0, he0]) hg
  have hu := h.used
  have hsz := h.size _ (List.mem_of_getElem? s3)
  rw [List.length_append, pieces_len] at hsz
  have hfull : ¬ (D.blocks - (usedOf D.F D.B : Int) < (grow D a s d.length : Int)) := by
    rw [h.bl]
    have h1 : grow D a s d.length ≤ needs (s.length + moreOf D.B a + d.length) := by unfold grow; omega
    unfold needs at h1 hu
    omega
  have e : appD D a d = { D with ops := D.ops + 1, B := D.B ++ [(a, d)] } := by
    unfold appD
    rw [if_neg (by rw [h.off]; decide), s2]
    simp only [h.fit, if_true, if_neg hfull]
    rw [h.begun]
    rfl
  have e1 : appErr D a d = 0 := by
    unfold appErr
    rw [if_neg (by rw [h.off]; decide), s2]
    simp only [h.fit, if_true, if_neg hfull]
  rw [e]
  have o0 := h.o0; have o1 := h.o1; have bj := h.bj
  refine ⟨e1, ⟨h.off, h.fails, h.keep, h.bl, by show 0 ≤ D.ops + 1; omega, by show D.ops + 1 ≤ _; omega, by simp; omega, h.len, h.keys, h.nd, ?_, ?_, h.sl, by simp [updL, h.ll], ?_⟩, by simp [pend]⟩
  · intro x hx
    rcases List.mem_append.1 hx with hx | hx
    · exact h.bn x hx
    · simp only [List.mem_singleton] at hx
      subst hx
      exact List.mem_map.2 ⟨_, aget_mem s2, rfl⟩
  · intro i s' hs' hg'
    obtain ⟨b, b1, b2, b3⟩ := h.at_ i s' hs' hg'
    refine ⟨b, b1, b2, ?_⟩
    have hi : i < names.length := (List.getElem?_eq_some_iff.1 hs').1
    have hp : pieces (D.B ++ [(a, d)]) s' = pieces D.B s' ++ (if a = s' then d else []) := by simp [pieces]
    show (updL names a d L names.length)[i]? = some (b ++ pieces (D.B ++ [(a, d)]) s')
    rw [updL, List.getElem?_mapIdx, b3, hs', hp]
    simp only [Option.map_some, Option.some.injEq]
    by_cases e : a = s'
    · rw [if_pos e, if_pos ⟨hi, e.symm, hg⟩, List.append_assoc]
    · rw [if_neg e, if_neg (fun h => e h.2.1.symm), List.append_nil]
  · intro l hl
    obtain ⟨i, hi, he⟩ := List.mem_iff_getElem.1 hl
    have hi' : i < L.length := by simpa [updL] using hi
    have h1 := h.size L[i] (List.getElem_mem hi')
    rw [← he]
    simp only [updL, List.getElem_mapIdx]
    split
    · rw [List.length_append]; omega
    · omega
theorem KW.app_no {names : List Nm} {D : DS} {S L : List By} {j T : Nat} (h : KW names D S L j T) {a : Nm} {d : By} {t : Nat} (hth : there names a names.length = false) :
    appErr D a d = 4 ∧ KW names (appD D a d) S (updL names a d L names.length) (j + 1) (T + t) ∧ pend (appD D a d).B = pend D.B := by
  have hn : aget D.F a = none := by
    cases hf : aget D.F a with
    | none => rfl
    | some s =>
      have := h.keys _ (aget_mem hf)
      rw [there_iff.2 this] at hth
      cases hth
  have e : appD D a d = D := by unfold appD; rw [if_neg (by rw [h.off]; decide), hn]
  have e2 : updL names a d L names.length = L := by
    have : ∀ i l, L[i]? = some l → (if i < names.length ∧ names[i]? = some a ∧ goodB a = true then l ++ d else l) = l := by
      intro i l _
      rw [if_neg]
      rintro ⟨_, h2, h3⟩
      rw [there_iff.2 ⟨List.mem_of_getElem? h2, h3⟩] at hth
      cases hth
    apply List.ext_getElem?
    intro i
    rw [updL, List.getElem?_mapIdx]
    cases hl : L[i]? with
    | none => rfl
    | some l => simp only [Option.map_some]; rw [this i l hl]
  rw [e, e2]
  have o1 := h.o1; have bj := h.bj
  exact ⟨by rw [appErr, h.off, hn]; rfl, ⟨h.off, h.fails, h.keep, h.bl, h.o0, by omega, by omega, h.len, h.keys, h.nd, h.bn, h.at_, h.sl, h.ll, fun l hl => by have := h.size l hl; omega⟩, rfl⟩

/-- what Read tells behind the crash -/
theorem KW.read {names : List Nm} {D : DS} {S L : List By} {j T : Nat} (h : KW names D S L j T) (keep : Nat) {i : Nat} {s : Nm} (hs : names[i]? = some s) (hg : goodB s = true) :
    ∃ a c : By, S[i]? = some a ∧ L[i]? = some c ∧ readErr ({ D.settle keep with off := true } : DS).start s = 0 ∧ readB ({ D.settle keep with off := true } : DS).start s = a ++ pieces (takeB D.B keep) s ∧ (a ++ pieces (takeB D.B keep) s) <+: c := by
  obtain ⟨a, a1, a2, a3⟩ := h.at_ i s hs hg
  have ha : aget (settleF D.F D.B keep) s = some (a ++ pieces (takeB D.B keep) s) := by rw [aget_settle, a2]; rfl
  refine ⟨a, _, a1, a3, ?_, ?_, (List.prefix_append_right_inj a).2 (pieces_pre D.B keep s)⟩
  · show (if false = true then _ else if (aget (settleF D.F D.B keep) s).isSome then _ else _) = _
    rw [ha]; rfl
  · show (if false = true then _ else match aget (settleF D.F D.B keep) s with | none => [] | some s' => s' ++ pieces [] s) = _
    rw [ha]
    simp [pieces]
theorem KW.left {names : List Nm} {D : DS} {S L : List By} {j T : Nat} (h : KW names D S L j T) (keep : Nat) : ((firsts names names.length).map fun n => moreOf (takeB D.B keep) n).sum = min keep (pend D.B) := by
  rw [sum_moreOf (firsts_nodup names _), pend_takeB]
  intro x hx
  obtain ⟨y, hy, e⟩ := takeB_names _ _ x hx
  obtain ⟨z, hz, e2⟩ := List.mem_map.1 (h.bn y hy)
  have := h.keys z hz
  rw [e2, e] at this
  rw [firsts_mem, List.take_length]
  exact this
end Go.Proofs.Ytdlbccjimdghkaa
