/- DiskRoom: what each act does to files and blocks, in plain Lean. No program is walked here. -/
import Derived.Test.YtdlbccjimdghkaaEP
namespace Go.Proofs.Ytdlbccjimdghkaa
open Go.RowKit
set_option linter.unusedVariables false
structure KR (q : Nat) (j : Nat) (D : DS) : Prop where
  off : D.off = false
  fails : D.fails = 0
  bl : D.blocks = q
  o0 : 0 ≤ D.ops
  o1 : D.ops ≤ j
  bj : D.B.length ≤ j
  good : ∀ x ∈ D.F, goodB x.1 = true
theorem KR.noff {q j : Nat} {D : DS} (h : KR q j D) : ¬ D.off = true := by rw [h.off]; decide
theorem KR.fit {q j : Nat} {D : DS} (h : KR q j D) : D.fit = true := by rw [DS.fit, h.fails]; rfl
theorem KR.begun {q j : Nat} {D : DS} (h : KR q j D) : D.begun = { D with ops := D.ops + 1 } := by rw [DS.begun, h.fails]; rfl
theorem KR.ok {q j : Nat} {D : DS} (h : KR q j D) (hj : j ≤ 1000) : D.Ok := ⟨h.o0, by have := h.o1; omega, by rw [h.fails]; decide, by have := h.bj; omega⟩
theorem KR.more {q j : Nat} {D : DS} (h : KR q j D) : KR q (j + 1) D := ⟨h.off, h.fails, h.bl, h.o0, by have := h.o1; omega, by have := h.bj; omega, h.good⟩
theorem KR.tick {q j : Nat} {D : DS} (h : KR q j D) : KR q (j + 1) D.begun := by
  rw [h.begun]
  have o0 := h.o0; have o1 := h.o1; have bj := h.bj
  exact ⟨h.off, h.fails, h.bl, by show 0 ≤ D.ops + 1; omega, by show D.ops + 1 ≤ _; omega, by show D.B.length ≤ _; omega, h.good⟩
theorem KR.put {q j : Nat} {D : DS} (h : KR q j D) {F B : List (Nm × By)} (hF : ∀ x ∈ F, goodB x.1 = true) (hB : B.length ≤ j + 1) : KR q (j + 1) { D.begun with F := F, B := B } := by
  have t := h.tick
  exact ⟨t.off, t.fails, t.bl, t.o0, t.o1, hB, hF⟩
/-- what the law asks of an act -/
structure Fair (q j : Nat) (D : DS) (e : Int) (D' : DS) : Prop where
  kr : KR q (j + 1) D'
  same : e ≠ 0 → usedOf D'.F D'.B = usedOf D.F D.B ∧ pend D'.B = pend D.B
theorem Fair.begun {q j : Nat} {D : DS} (h : KR q j D) (e : Int) : Fair q j D e D.begun := ⟨h.tick, fun _ => by rw [h.begun]; exact ⟨rfl, rfl⟩⟩
theorem Fair.none {q j : Nat} {D : DS} (h : KR q j D) (e : Int) : Fair q j D e D := ⟨h.more, fun _ => ⟨rfl, rfl⟩⟩
theorem adel_good {F : List (Nm × By)} {n : Nm} (h : ∀ x ∈ F, goodB x.1 = true) : ∀ x ∈ adel F n, goodB x.1 = true := fun x hx => h x (mem_adel hx)
theorem snoc_good {F : List (Nm × By)} {n : Nm} {b : By} (h : ∀ x ∈ F, goodB x.1 = true) (hn : goodB n = true) : ∀ x ∈ F ++ [(n, b)], goodB x.1 = true := by
  intro x hx
  rcases List.mem_append.1 hx with hx | hx
  · exact h x hx
  · simp only [List.mem_singleton] at hx; subst hx; exact hn
theorem adel_le {β : Type} (F : List (Nm × β)) (n : Nm) : (adel F n).length ≤ F.length := List.length_filter_le _ _
theorem KR.create {q j : Nat} {D : DS} (h : KR q j D) (n : Nm) : Fair q j D (creErr D n) (creD D n) := by
  unfold creErr creD
  rw [if_neg h.noff, if_neg h.noff]
  by_cases hg : goodB n = true
  · rw [if_pos hg, if_pos hg, if_pos h.fit, if_pos h.fit]
    have bj := h.bj
    have hl := adel_le D.B n
    cases hf : aget D.F n with
    | some s =>
      have e1 : creErr1 D n = 0 := by unfold creErr1; rw [hf]
      have e2 : creD1 D.begun n = { D.begun with F := adel D.F n ++ [(n, [])], B := adel D.B n } := by
        have hb := h.begun
        unfold creD1
        rw [show aget D.begun.F n = some s from by rw [hb]; exact hf]
        rw [hb]
        rfl
      rw [e1, e2]
      exact ⟨h.put (snoc_good (adel_good h.good) hg) (by omega), fun hne => absurd rfl hne⟩
    | none =>
      have e0 : creErr1 D n = createErr1 D := by unfold creErr1; rw [hf]
      have e3 : creD1 D.begun n = createD1 D.begun n := by unfold creD1; rw [show aget D.begun.F n = none from by rw [h.begun]; exact hf]
      rw [e0, e3]
      by_cases hu : D.blocks ≤ (usedOf D.F D.B : Int)
      · have e2 : createD1 D.begun n = D.begun := by
          unfold createD1
          rw [if_pos (by rw [h.begun]; exact hu)]
        rw [e2]
        exact Fair.begun h _
      · have e1 : createErr1 D = 0 := by unfold createErr1; rw [if_neg hu]
        have e2 : createD1 D.begun n = { D.begun with F := D.F ++ [(n, [])], B := D.B } := by
          unfold createD1
          rw [if_neg (by rw [h.begun]; exact hu), h.begun]
          rfl
        rw [e1, e2]
        exact ⟨h.put (snoc_good h.good hg) (by omega), fun hne => absurd rfl hne⟩
  · rw [if_neg hg, if_neg hg]
    exact Fair.none h _
theorem KR.append {q j : Nat} {D : DS} (h : KR q j D) (n : Nm) (b : By) : Fair q j D (appErr D n b) (appD D n b) := by
  unfold appErr appD
  rw [if_neg h.noff, if_neg h.noff]
  have bj := h.bj
  cases hf : aget D.F n with
  | none => exact Fair.none h _
  | some s =>
    simp only [h.fit, if_true]
    by_cases hu : D.blocks - (usedOf D.F D.B : Int) < (grow D n s b.length : Int)
    · rw [if_pos hu, if_pos hu]; exact Fair.begun h _
    · rw [if_neg hu, if_neg hu]
      have e2 : D.begun.push n b = { D.begun with F := D.F, B := D.B ++ [(n, b)] } := by rw [h.begun]; rfl
      rw [e2]
      exact ⟨h.put h.good (by simp; omega), fun hne => absurd rfl hne⟩
theorem KR.sync {q j : Nat} {D : DS} (h : KR q j D) : Fair q j D (syncErr D) (syncD D) := by
  unfold syncErr syncD
  rw [if_neg h.noff, if_neg h.noff, if_pos h.fit, if_pos h.fit]
  have e2 : D.begun.settle (pend D.B) = { D.begun with F := settleF D.F D.B (pend D.B), B := [] } := by rw [h.begun]; rfl
  rw [e2]
  refine ⟨h.put (fun x hx => ?_) (by simp), fun hne => absurd rfl hne⟩
  have hx' : x.1 ∈ (settleF D.F D.B (pend D.B)).map (·.1) := List.mem_map.2 ⟨x, hx, rfl⟩
  rw [settleF_keys] at hx'
  obtain ⟨y, hy, e⟩ := List.mem_map.1 hx'
  rw [← e]; exact h.good y hy
theorem KR.rename {q j : Nat} {D : DS} (h : KR q j D) (a b : Nm) : Fair q j D (renErr D a b) (renD D a b) := by
  unfold renErr renD
  rw [if_neg h.noff, if_neg h.noff]
  have bj := h.bj
  by_cases hg : goodB b = true
  · rw [if_pos hg, if_pos hg]
    cases hf : aget D.F a with
    | none => exact Fair.none h _
    | some s =>
      simp only [h.fit, if_true]
      unfold ren1D
      by_cases hab : a = b
      · rw [if_pos hab]; exact Fair.begun h _
      · rw [if_neg hab]
        have e2 : (D.begun.gone b).ren a b s = { D.begun with F := adel (adel D.F b) a ++ [(b, s)], B := renB (adel D.B b) a b } := by rw [h.begun]; rfl
        rw [e2]
        have hl := adel_le D.B b
        exact ⟨h.put (snoc_good (adel_good (adel_good h.good)) hg) (by simp only [renB, List.length_map]; omega), fun hne => absurd rfl hne⟩
  · rw [if_neg hg, if_neg hg]
    exact Fair.none h _
theorem KR.remove {q j : Nat} {D : DS} (h : KR q j D) (hnd : (D.F.map (·.1)).Nodup) (n : Nm) : Fair q j D (remErr D n) (remD D n) ∧ (remErr D n = 0 → usedOf (remD D n).F (remD D n).B < usedOf D.F D.B) ∧ (remErr D n = 0 ∨ remErr D n = 4) ∧
    (∀ s, aget D.F n = some s → remErr D n = 0 ∧ (remD D n).F = adel D.F n ∧ (remD D n).B = adel D.B n) := by
  unfold remErr remD
  rw [if_neg h.noff, if_neg h.noff]
  have bj := h.bj
  cases hf : aget D.F n with
  | none => exact ⟨Fair.none h _, (fun e => by simp at e), .inr rfl, fun s e => by cases e⟩
  | some s =>
    simp only [h.fit, if_true]
    have e2 : D.begun.gone n = { D.begun with F := adel D.F n, B := adel D.B n } := by rw [h.begun]; rfl
    rw [e2]
    have hl := adel_le D.B n
    refine ⟨⟨h.put (adel_good h.good) (by omega), fun hne => absurd rfl hne⟩, fun _ => ?_, .inl trivial, fun _ _ => ⟨trivial, rfl, rfl⟩⟩
    have := gone_used (B := D.B) hnd (aget_mem hf)
    show usedOf (adel D.F n) (adel D.B n) < _
    unfold needs at this
    omega
theorem Dk.us {w : World} {p : Nat} {ro : Nat → Role} {D : DS} (h : Dk w p ro D) : (usedOf D.F D.B : Int) ≤ D.blocks ∧ (D.F.map (·.1)).Nodup ∧ (∀ x ∈ D.B, x.1 ∈ D.F.map (·.1)) ∧ pend D.B ≤ 1073741824 := by
  obtain ⟨m, fp, bv, BV, h⟩ := h
  refine ⟨h.us, ?_, h.names, h.pend_le⟩
  have := h.map.nodup strKey
  simpa [List.map_map, Function.comp_def] using this
theorem le_tot2 (xs : List A8) : xs.length ≤ tot xs := by
  induction xs with
  | nil => simp [tot]
  | cons x l ih => simp only [tot, List.map_cons, List.sum_cons, List.length_cons, wt] at ih ⊢; omega
theorem own00 {w : World} {base e sz n : Nat} {v : Value} {xs : List Value} (h : w.ownsRow base e sz v n xs) : w.ownsRow 0 e sz v n xs := by
  refine ⟨h.1, ?_⟩
  rcases h.2 with hn | ⟨g, cap, cur, rfl, hb, rest⟩
  · exact .inl hn
  · exact .inr ⟨g, cap, cur, rfl, Nat.zero_le _, rest⟩
theorem aget_of_mem {F : List (Nm × By)} {n : Nm} (h : n ∈ F.map (·.1)) : ∃ s, aget F n = some s := by
  cases hf : aget F n with
  | none => exact absurd h (aget_none hf)
  | some s => exact ⟨s, rfl⟩
theorem mem_adel_keys {F : List (Nm × By)} {n t : Nm} : t ∈ (adel F n).map (·.1) ↔ t ∈ F.map (·.1) ∧ t ≠ n := by
  unfold adel
  constructor
  · intro h
    obtain ⟨x, hx, rfl⟩ := List.mem_map.1 h
    obtain ⟨h1, h2⟩ := List.mem_filter.1 hx
    exact ⟨List.mem_map.2 ⟨x, h1, rfl⟩, by simpa using h2⟩
  · rintro ⟨h, hn⟩
    obtain ⟨x, hx, rfl⟩ := List.mem_map.1 h
    exact List.mem_map.2 ⟨x, List.mem_filter.2 ⟨hx, by simpa using hn⟩, rfl⟩
theorem files_le (F B : List (Nm × By)) : F.length ≤ usedOf F B := by
  induction F with
  | nil => simp
  | cons x l ih =>
    simp only [usedOf, List.map_cons, List.sum_cons, List.length_cons] at ih ⊢
    unfold needs at ih ⊢
    omega
theorem good_size {n : Nm} (h : goodB n = true) : n.size ≤ 24 := by
  unfold goodB at h
  simp only [Bool.and_eq_true, decide_eq_true_eq] at h
  omega
end Go.Proofs.Ytdlbccjimdghkaa
