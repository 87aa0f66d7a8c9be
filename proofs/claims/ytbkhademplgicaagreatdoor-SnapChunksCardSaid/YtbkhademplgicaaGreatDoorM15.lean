/- Plain: what Save leaves on a disk with at most one snapshot, wherever the power fails. No condition but the room. Plain: what Save leaves on a disk with at most one snapshot, wherever the power fails: all steps. No condition but the room. Plain: what Save leaves on a disk with at most one snapshot, and what Load finds there. No condition but the room. Texts: the very same texts: walked once. No condition but that both rows lie. The law's plain snapshot: walked once. No condition. The law's lives: the document's examples are as it says: walked once. No condition but where the library's tables lie. The law's lives: the document's examples are as it says: walked once. No condition but where the library's tables lie. The law SnapNames: walked once. No condition but where the library's tables lie. -/
import Derived.Test.YtbkhademplgicaaGreatDoorM14
import Derived.Lib.SlBytesConst
set_option linter.unusedVariables false
set_option linter.unusedSimpArgs false
namespace Go.Proofs.YtbkhademplgicaaGreatDoor
open Go.RowKit
set_option linter.unusedVariables false
set_option linter.unusedSimpArgs false
def tickD (D : DS) : DS := { D with ops := D.ops + 1, fails := if D.fails < 1 then D.fails else D.fails - 1 }
theorem begun_tick {D : DS} (h : D.fit = true) : D.begun = tickD D := by
  have h1 : D.fails ≠ 1 := by simpa [DS.fit] using h
  unfold DS.begun tickD
  split
  · rfl
  · rfl
theorem begun_crash {D : DS} (h : D.fit = false) : 1 ≤ D.fails ∧ D.begun = DS.crash { D with ops := D.ops + 1, fails := 0 } D.keep := by
  have h1 : D.fails = 1 := by simpa [DS.fit] using h
  refine ⟨by omega, ?_⟩
  unfold DS.begun
  rw [if_neg (by omega), if_pos h1]
theorem tick_fails {D : DS} (h : D.fails ≤ 0) : (tickD D).fails ≤ 0 := by
  show (if D.fails < 1 then D.fails else D.fails - 1) ≤ 0
  rw [if_pos (by omega)]; exact h
abbrev keyed (bs : List By) : List (Nm × By) := bs.map fun b => (freshN, b)
theorem addTo_fresh {F1 : List (Nm × By)} (hf : freshN ∉ F1.map (·.1)) (s b : By) : addTo (F1 ++ [(freshN, s)]) freshN b = F1 ++ [(freshN, s ++ b)] := by
  have h1 := addTo_none hf b
  unfold addTo at h1 ⊢
  rw [List.map_append, h1]
  simp
theorem settle_fresh {F1 : List (Nm × By)} (hf : freshN ∉ F1.map (·.1)) (bs : List By) : ∀ (s : By) (n : Nat), ∃ t, settleF (F1 ++ [(freshN, s)]) (keyed bs) n = F1 ++ [(freshN, t)] ∧ (bs.flatten.length ≤ n → t = s ++ bs.flatten) := by
  induction bs with
  | nil => intro s n; exact ⟨s, rfl, fun _ => by simp⟩
  | cons b bs ih =>
    intro s n
    obtain ⟨t, h1, h2⟩ := ih (s ++ b.take n) (n - min b.length n)
    refine ⟨t, ?_, fun hn => ?_⟩
    · show settleF (addTo (F1 ++ [(freshN, s)]) freshN (b.take n)) (keyed bs) (n - min b.length n) = _
      rw [addTo_fresh hf, h1]
    · rw [List.flatten_cons, List.length_append] at hn
      rw [h2 (by omega), List.take_of_length_le (by omega), List.flatten_cons, List.append_assoc]
theorem moreOf_keyed (bs : List By) : moreOf (keyed bs) freshN = bs.flatten.length := by
  induction bs with
  | nil => rfl
  | cons b bs ih =>
    show (if freshN = freshN then b.length else 0) + moreOf (keyed bs) freshN = _
    rw [ih, if_pos rfl, List.flatten_cons, List.length_append]
theorem moreOf_keyed_ne (bs : List By) {n : Nm} (h : n ≠ freshN) : moreOf (keyed bs) n = 0 := by
  induction bs with
  | nil => rfl
  | cons b bs ih =>
    show (if freshN = n then b.length else 0) + moreOf (keyed bs) n = _
    rw [ih, if_neg (Ne.symm h)]
theorem pend_keyed (bs : List By) : pend (keyed bs) = bs.flatten.length := by
  induction bs with
  | nil => rfl
  | cons b bs ih =>
    show b.length + pend (keyed bs) = _
    rw [ih, List.flatten_cons, List.length_append]
theorem used_fresh {F1 : List (Nm × By)} (hf : freshN ∉ F1.map (·.1)) (bs : List By) : usedOf (F1 ++ [(freshN, [])]) (keyed bs) = usedOf F1 [] + needs bs.flatten.length := by
  unfold usedOf
  rw [List.map_append, List.sum_append]
  congr 1
  · congr 1
    apply List.map_congr_left
    intro x hx
    rw [moreOf_keyed_ne _ (fun e => hf (by rw [← e]; exact List.mem_map_of_mem hx))]
    rfl
  · show needs (0 + moreOf (keyed bs) freshN) + 0 = _
    rw [moreOf_keyed, Nat.zero_add, Nat.add_zero]
theorem aget_snocP {κ β : Type} [DecidableEq κ] {F : List (κ × β)} {n k : κ} {v : β} : aget (F ++ [(n, v)]) k = (aget F k).or (if k = n then some v else none) := by
  unfold aget
  rw [List.find?_append]
  cases hf : F.find? (fun x => x.1 == k) with
  | some y => rfl
  | none =>
    simp only [Option.none_or, Option.map_none]
    by_cases e : k = n
    · subst e; simp
    · have : (n == k) = false := by simpa using fun e2 : n = k => e e2.symm
      rw [List.find?_cons, this]
      simp [e]
theorem aget_nokey {F : List (Nm × By)} {n : Nm} (h : n ∉ F.map (·.1)) : aget F n = none := by
  cases e : aget F n with
  | none => rfl
  | some s => exact absurd (List.mem_map_of_mem (f := (·.1)) (aget_mem e)) h
theorem aget_fresh {F1 : List (Nm × By)} (hf : freshN ∉ F1.map (·.1)) (s : By) : aget (F1 ++ [(freshN, s)]) freshN = some s := by
  rw [aget_snocP, aget_nokey hf, if_pos rfl]; rfl
/-- The power failed ahead of the renaming. -/
def CrB (F1 : List (Nm × By)) (r : Int × DS) : Prop := r.1 = 9 ∧ r.2.off = true ∧ r.2.B = [] ∧ (r.2.F = F1 ∨ ∃ t, r.2.F = F1 ++ [(freshN, t)])
theorem apps_out {F1 : List (Nm × By)} (hf : freshN ∉ F1.map (·.1)) (T : Nat) (ls : List By) : ∀ (bs : List By) (D : DS), D.off = false → D.F = F1 ++ [(freshN, [])] → D.B = keyed bs → (usedOf F1 [] + needs T : Nat) ≤ D.blocks → bs.flatten.length + ls.flatten.length ≤ T →
    (1 ≤ D.fails ∧ CrB F1 (appsP D ls)) ∨ ((appsP D ls).1 = 0 ∧ (appsP D ls).2.off = false ∧ (appsP D ls).2.F = F1 ++ [(freshN, [])] ∧ (appsP D ls).2.B = keyed (bs ++ ls) ∧ (appsP D ls).2.blocks = D.blocks ∧ (D.fails ≤ 0 → (appsP D ls).2.fails ≤ 0)) := by
  induction ls with
  | nil =>
    intro bs D h1 h2 h3 h4 h5
    right
    refine ⟨rfl, h1, h2, by rw [List.append_nil]; exact h3, rfl, id⟩
  | cons b ls ih =>
    intro bs D h1 h2 h3 h4 h5
    rw [List.flatten_cons, List.length_append] at h5
    have ha : aget D.F freshN = some [] := by rw [h2]; exact aget_fresh hf []
    cases hfit : D.fit with
    | false =>
      left
      obtain ⟨c1, c2⟩ := begun_crash hfit
      have he : appErr D freshN b = 9 := by unfold appErr; rw [if_neg (by simp [h1]), ha]; dsimp only; rw [if_neg (by simp [hfit])]
      have hd : appD D freshN b = D.begun := by unfold appD; rw [if_neg (by simp [h1]), ha]; dsimp only; rw [if_neg (by simp [hfit])]
      have hr : appsP D (b :: ls) = (9, D.begun) := by rw [appsP, he, hd, if_neg (by decide)]
      refine ⟨c1, ?_⟩
      rw [hr, c2]
      refine ⟨rfl, rfl, rfl, .inr ?_⟩
      obtain ⟨t, ht, _⟩ := settle_fresh hf bs [] (D.keep.toNat)
      refine ⟨t, ?_⟩
      show settleF D.F D.B _ = _
      rw [h2, h3]
      exact ht
    | true =>
      have hb := begun_tick hfit
      have hroom : ¬ D.blocks - (usedOf D.F D.B : Int) < (grow D freshN [] b.length : Int) := by
        have e1 : usedOf D.F D.B = usedOf F1 [] + needs bs.flatten.length := by rw [h2, h3]; exact used_fresh hf bs
        have e2 : grow D freshN [] b.length = needs (bs.flatten.length + b.length) - needs bs.flatten.length := by
          unfold grow
          rw [h3, moreOf_keyed]
          simp
        rw [e1, e2]
        have m1 : needs (bs.flatten.length + b.length) ≤ needs T := by unfold needs; omega
        have m2 : needs bs.flatten.length ≤ needs (bs.flatten.length + b.length) := by unfold needs; omega
        omega
      have he : appErr D freshN b = 0 := by unfold appErr; rw [if_neg (by simp [h1]), ha]; dsimp only; rw [if_pos hfit, if_neg hroom]
      have hd : appD D freshN b = (tickD D).push freshN b := by unfold appD; rw [if_neg (by simp [h1]), ha]; dsimp only; rw [if_pos hfit, if_neg hroom, hb]
      have hr : appsP D (b :: ls) = appsP ((tickD D).push freshN b) ls := by rw [appsP, he, hd, if_pos rfl]
      rw [hr]
      have hB : ((tickD D).push freshN b).B = keyed (bs ++ [b]) := by
        show D.B ++ [(freshN, b)] = _
        rw [h3, keyed, keyed, List.map_append]; rfl
      rcases ih (bs ++ [b]) ((tickD D).push freshN b) h1 h2 hB h4 (by rw [List.flatten_append, List.length_append, List.flatten_singleton]; omega) with ⟨c1, c2⟩ | ⟨c1, c2, c3, c4, c5, c6⟩
      · left
        refine ⟨?_, c2⟩
        have : 1 ≤ (tickD D).fails := c1
        by_cases h0 : D.fails ≤ 0
        · have := tick_fails h0; omega
        · omega
      · right
        refine ⟨c1, c2, c3, ?_, c5, fun h0 => c6 (tick_fails h0)⟩
        rw [c4, List.append_assoc]; rfl
end Go.Proofs.YtbkhademplgicaaGreatDoor

namespace Go.Proofs.YtbkhademplgicaaGreatDoor
open Go.RowKit
set_option linter.unusedVariables false
set_option linter.unusedSimpArgs false
theorem snName_fresh {n : Int} (h1 : 1 ≤ n) (h2 : n ≤ 999999999) : snName n ≠ freshN := by
  rw [snName_eq h1 h2]
  intro e
  have h := congrArg (fun s : ByteArray => s.data.toList[4]?) e
  simp [pre5, freshN] at h
theorem fresh_no_index : (snIndex freshN).2 = false := by
  cases h : (snIndex freshN).2 with
  | false => rfl
  | true =>
    obtain ⟨h1, h2, h3⟩ := snIndex_true (s := freshN) (n := (snIndex freshN).1) (by rw [← h])
    exact absurd h1 (snName_fresh h2 h3)
theorem goodB_fresh : goodB freshN = true := by decide
theorem cre_out {x : Sn} {D : DS} (h1 : D.off = false) (hf : freshN ∉ D.F.map (·.1)) (hB : D.B = []) (hr : (usedOf D.F [] : Int) < D.blocks) :
    (1 ≤ D.fails ∧ CrB D.F (st1 D x)) ∨ ((st1 D x).1 = 0 ∧ (st1 D x).2.off = false ∧ (st1 D x).2.F = D.F ++ [(freshN, [])] ∧ (st1 D x).2.B = keyed [] ∧ (st1 D x).2.blocks = D.blocks ∧ (D.fails ≤ 0 → (st1 D x).2.fails ≤ 0)) := by
  have ha := aget_nokey hf
  have h0 : ¬ D.off = true := by simp [h1]
  cases hfit : D.fit with
  | false =>
    left
    obtain ⟨c1, c2⟩ := begun_crash hfit
    have e : st1 D x = (9, D.begun) := by
      unfold st1 creErr creD
      rw [if_neg h0, if_pos goodB_fresh, if_neg (by simp [hfit]), if_neg h0, if_pos goodB_fresh, if_neg (by simp [hfit])]
    rw [e, c2]
    refine ⟨c1, rfl, rfl, rfl, .inl ?_⟩
    show settleF D.F D.B _ = _
    rw [hB]; rfl
  | true =>
    right
    have hb := begun_tick hfit
    have hu : ¬ D.blocks ≤ (usedOf D.F D.B : Int) := by rw [hB]; omega
    have e : st1 D x = (0, (tickD D).add freshN) := by
      unfold st1 creErr creD
      rw [if_neg h0, if_pos goodB_fresh, if_pos hfit, if_neg h0, if_pos goodB_fresh, if_pos hfit]
      unfold creErr1 creD1
      rw [hb]
      have ha2 : aget (tickD D).F freshN = none := ha
      rw [ha, ha2]
      dsimp only
      unfold createErr1 createD1
      have hu2 : ¬ (tickD D).blocks ≤ (usedOf (tickD D).F (tickD D).B : Int) := hu
      rw [if_neg hu, if_neg hu2]
    rw [e]
    exact ⟨rfl, h1, rfl, hB, rfl, fun h => tick_fails h⟩
theorem sync_out {F1 : List (Nm × By)} (hf : freshN ∉ F1.map (·.1)) {D : DS} {bs : List By} (h1 : D.off = false) (h2 : D.F = F1 ++ [(freshN, [])]) (h3 : D.B = keyed bs) :
    (1 ≤ D.fails ∧ CrB F1 (syncErr D, syncD D)) ∨ (syncErr D = 0 ∧ (syncD D).off = false ∧ (syncD D).F = F1 ++ [(freshN, bs.flatten)] ∧ (syncD D).B = [] ∧ (syncD D).blocks = D.blocks ∧ (D.fails ≤ 0 → (syncD D).fails ≤ 0)) := by
  have h0 : ¬ D.off = true := by simp [h1]
  cases hfit : D.fit with
  | false =>
    left
    obtain ⟨c1, c2⟩ := begun_crash hfit
    have e1 : syncErr D = 9 := by unfold syncErr; rw [if_neg h0, if_neg (by simp [hfit])]
    have e2 : syncD D = D.begun := by unfold syncD; rw [if_neg h0, if_neg (by simp [hfit])]
    rw [e1, e2, c2]
    refine ⟨c1, rfl, rfl, rfl, .inr ?_⟩
    obtain ⟨t, ht, _⟩ := settle_fresh hf bs [] (D.keep.toNat)
    refine ⟨t, ?_⟩
    show settleF D.F D.B _ = _
    rw [h2, h3]
    exact ht
  | true =>
    right
    have hb := begun_tick hfit
    have e1 : syncErr D = 0 := by unfold syncErr; rw [if_neg h0, if_pos hfit]
    have e2 : syncD D = (tickD D).settle (pend D.B) := by unfold syncD; rw [if_neg h0, if_pos hfit, hb]
    rw [e1, e2]
    refine ⟨rfl, h1, ?_, rfl, rfl, fun h => tick_fails h⟩
    obtain ⟨t, ht, ht2⟩ := settle_fresh hf bs [] (pend D.B)
    show settleF D.F D.B _ = _
    rw [h2, h3, ← h3, h3] at *
    rw [ht, ht2 (by rw [pend_keyed]; exact Nat.le_refl _)]
    rfl
theorem adel_append' {β : Type} (F G : List (Nm × β)) (n : Nm) : adel (F ++ G) n = adel F n ++ adel G n := List.filter_append ..
theorem ren_out {F1 : List (Nm × By)} (hf : freshN ∉ F1.map (·.1)) {D : DS} {s : By} {nb : Nm} (hg : goodB nb = true) (hne : nb ≠ freshN) (h1 : D.off = false) (h2 : D.F = F1 ++ [(freshN, s)]) (h3 : D.B = []) :
    (1 ≤ D.fails ∧ CrB F1 (renErr D freshN nb, renD D freshN nb)) ∨ (renErr D freshN nb = 0 ∧ (renD D freshN nb).off = false ∧ (renD D freshN nb).F = adel F1 nb ++ [(nb, s)] ∧ (renD D freshN nb).B = [] ∧ (renD D freshN nb).blocks = D.blocks ∧ (D.fails ≤ 0 → (renD D freshN nb).fails ≤ 0)) := by
  have h0 : ¬ D.off = true := by simp [h1]
  have ha : aget D.F freshN = some s := by rw [h2]; exact aget_fresh hf s
  cases hfit : D.fit with
  | false =>
    left
    obtain ⟨c1, c2⟩ := begun_crash hfit
    have e1 : renErr D freshN nb = 9 := by unfold renErr; rw [if_neg h0, if_pos hg, ha]; dsimp only; rw [if_neg (by simp [hfit])]
    have e2 : renD D freshN nb = D.begun := by unfold renD; rw [if_neg h0, if_pos hg, ha]; dsimp only; rw [if_neg (by simp [hfit])]
    rw [e1, e2, c2]
    refine ⟨c1, rfl, rfl, rfl, .inr ⟨s, ?_⟩⟩
    show settleF D.F D.B _ = _
    rw [h2, h3]; rfl
  | true =>
    right
    have hb := begun_tick hfit
    have e1 : renErr D freshN nb = 0 := by unfold renErr; rw [if_neg h0, if_pos hg, ha]; dsimp only; rw [if_pos hfit]
    have e2 : renD D freshN nb = ((tickD D).gone nb).ren freshN nb s := by
      unfold renD; rw [if_neg h0, if_pos hg, ha]; dsimp only; rw [if_pos hfit, hb]
      unfold ren1D; rw [if_neg (Ne.symm hne)]
    rw [e1, e2]
    refine ⟨rfl, h1, ?_, ?_, rfl, fun h => tick_fails h⟩
    · show adel (adel D.F nb) freshN ++ [(nb, s)] = _
      rw [h2, adel_append', adel_append']
      have e3 : adel [(freshN, s)] nb = [(freshN, s)] := adel_none (by simpa using hne)
      have e4 : adel [(freshN, s)] freshN = [] := by simp [adel]
      have e5 : adel (adel F1 nb) freshN = adel F1 nb := adel_none (fun h => by
        obtain ⟨x, hx, e⟩ := List.mem_map.1 h
        exact hf (List.mem_map.2 ⟨x, mem_adel' hx, e⟩))
      rw [e3, e4, e5, List.append_nil]
    · show renB (adel D.B nb) freshN nb = []
      rw [h3]; rfl
theorem rem_out {D : DS} {n : Nm} {s : By} (h1 : D.off = false) (h3 : D.B = []) (ha : aget D.F n = some s) :
    (1 ≤ D.fails ∧ remErr D n = 9 ∧ (remD D n).off = true ∧ (remD D n).B = [] ∧ (remD D n).F = D.F) ∨ (remErr D n = 0 ∧ (remD D n).off = false ∧ (remD D n).F = adel D.F n ∧ (remD D n).B = [] ∧ (remD D n).blocks = D.blocks ∧ (D.fails ≤ 0 → (remD D n).fails ≤ 0)) := by
  have h0 : ¬ D.off = true := by simp [h1]
  cases hfit : D.fit with
  | false =>
    left
    obtain ⟨c1, c2⟩ := begun_crash hfit
    have e1 : remErr D n = 9 := by unfold remErr; rw [if_neg h0, ha]; dsimp only; rw [if_neg (by simp [hfit])]
    have e2 : remD D n = D.begun := by unfold remD; rw [if_neg h0, ha]; dsimp only; rw [if_neg (by simp [hfit])]
    rw [e1, e2, c2]
    refine ⟨c1, rfl, rfl, rfl, ?_⟩
    show settleF D.F D.B _ = _
    rw [h3]; rfl
  | true =>
    right
    have hb := begun_tick hfit
    have e1 : remErr D n = 0 := by unfold remErr; rw [if_neg h0, ha]; dsimp only; rw [if_pos hfit]
    have e2 : remD D n = (tickD D).gone n := by unfold remD; rw [if_neg h0, ha]; dsimp only; rw [if_pos hfit, hb]
    rw [e1, e2]
    refine ⟨rfl, h1, rfl, ?_, rfl, fun h => tick_fails h⟩
    show adel D.B n = []
    rw [h3]; rfl
end Go.Proofs.YtbkhademplgicaaGreatDoor

namespace Go.Proofs.YtbkhademplgicaaGreatDoor
open Go.RowKit
set_option linter.unusedVariables false
set_option linter.unusedSimpArgs false
/-- A snapshot that may be saved. -/
structure Sv (a : Sn) : Prop where
  i : SnI a
  g : goodSnap a = true
  m : a.index ≤ 999999999
theorem Sv.p {a : Sn} (h : Sv a) : 1 ≤ a.index := by
  have := h.g
  unfold goodSnap at this
  simp only [Bool.and_eq_true, decide_eq_true_eq] at this
  omega
abbrev fileOf (a : Sn) : Nm × By := (snName a.index, wholeB a)
def OneF (F : List (Nm × By)) : Prop := F = [] ∨ ∃ a, Sv a ∧ F = [fileOf a]
theorem OneF.fresh {F : List (Nm × By)} (h : OneF F) : freshN ∉ F.map (·.1) := by
  rcases h with rfl | ⟨a, ha, rfl⟩
  · simp
  · simpa using (snName_fresh ha.p ha.m).symm
theorem Sv.ix {a : Sn} (h : Sv a) : snIndex (snName a.index) = (a.index, true) := snIndex_name h.p h.m
theorem ix_one {a : Sn} (h : Sv a) : snIdx [snName a.index] = [a.index] := by
  rw [snIdx_cons, h.ix]; rfl
theorem ix_two {a b : Sn} (h : Sv a) (hb : Sv b) : snIdx [snName a.index, snName b.index] = [a.index, b.index] := by
  rw [snIdx_cons, h.ix, ix_one hb]; rfl
/-- What a Save that is done leaves. -/
def FinF (F1 : List (Nm × By)) (b : Sn) (F : List (Nm × By)) : Prop :=
  (F = [fileOf b] ∧ (F1 = [] ∨ ∃ a, Sv a ∧ F1 = [fileOf a] ∧ a.index ≤ b.index)) ∨ ∃ a, Sv a ∧ F1 = [fileOf a] ∧ b.index < a.index ∧ F = [fileOf a, fileOf b]
/-- The power failed behind the renaming. -/
def CrA (F1 : List (Nm × By)) (b : Sn) (r : Int × DS) : Prop := ∃ a, Sv a ∧ F1 = [fileOf a] ∧ a.index < b.index ∧ r.1 = 9 ∧ r.2.off = true ∧ r.2.B = [] ∧ r.2.F = [fileOf a, fileOf b]
theorem idxP_of {D : DS} {L : List Int} (hp : L.Perm (snIdx (D.F.map (·.1)))) (hs : L.Pairwise fun a b : Int => b ≤ a) : idxP D = L := (idxP_eq hp hs).symm
theorem name_ne {a b : Sn} (ha : Sv a) (hb : Sv b) (h : a.index ≠ b.index) : snName a.index ≠ snName b.index := fun e => h (snName_inj ha.p ha.m hb.p hb.m e)
theorem save_out {D : DS} {b : Sn} (h1 : D.off = false) (hB : D.B = []) (hF : OneF D.F) (hb : Sv b) (hr : (usedOf D.F [] + needs (wholeB b).length : Nat) ≤ D.blocks) :
    (1 ≤ D.fails ∧ (CrB D.F (saveP D b) ∨ CrA D.F b (saveP D b))) ∨ ((saveP D b).1 = 0 ∧ (saveP D b).2.off = false ∧ FinF D.F b (saveP D b).2.F ∧ (saveP D b).2.B = [] ∧ (saveP D b).2.blocks = D.blocks ∧ (D.fails ≤ 0 → (saveP D b).2.fails ≤ 0)) := by
  have hfr := hF.fresh
  have hne := snName_fresh hb.p hb.m
  have hge := snName_good hb.p hb.m
  rw [saveP_eq h1 hb.g hb.m]
  have fdown : ∀ {x y : Int}, (x ≤ 0 → y ≤ 0) → 1 ≤ y → 1 ≤ x := fun {x y} h h2 => by
    by_cases h3 : x ≤ 0
    · have := h h3; omega
    · omega
  rcases cre_out (x := b) h1 hfr hB (by have : 1 ≤ needs (wholeB b).length := by unfold needs; omega
                                        omega) with ⟨c, hc⟩ | ⟨a1, a2, a3, a4, a5, a6⟩
  · left
    rw [if_neg (by rw [hc.1]; decide)]
    exact ⟨c, .inl hc⟩
  rw [if_pos a1]
  rcases apps_out hfr (wholeB b).length (chunksB b) [] (st1 D b).2 a2 a3 a4 (by rw [a5]; exact hr) (by show 0 + (wholeB b).length ≤ _; omega) with ⟨c, hc⟩ | ⟨b1, b2, b3, b4, b5, b6⟩
  · left
    rw [if_neg (show (st2 D b).1 ≠ 0 by show (appsP _ _).1 ≠ 0; rw [hc.1]; decide)]
    exact ⟨fdown a6 c, .inl hc⟩
  rw [if_pos (show (st2 D b).1 = 0 from b1)]
  rcases sync_out hfr (D := (st2 D b).2) b2 b3 b4 with ⟨c, hc⟩ | ⟨c1, c2, c3, c4, c5, c6⟩
  · left
    rw [if_neg (show (st3 D b).1 ≠ 0 from fun e => absurd (hc.1.symm.trans e) (by decide))]
    exact ⟨fdown a6 (fdown b6 c), .inl hc⟩
  rw [if_pos (show (st3 D b).1 = 0 from c1)]
  rcases ren_out hfr (D := (st3 D b).2) hge hne c2 c3 c4 with ⟨c, hc⟩ | ⟨d1, d2, d3, d4, d5, d6⟩
  · left
    rw [if_neg (show (st4 D b).1 ≠ 0 from fun e => absurd (hc.1.symm.trans e) (by decide))]
    exact ⟨fdown a6 (fdown b6 (fdown c6 c)), .inl hc⟩
  rw [if_pos (show (st4 D b).1 = 0 from d1)]
  have hw : (st4 D b).2.F = adel D.F (snName b.index) ++ [fileOf b] := d3
  have hbl : (st4 D b).2.blocks = D.blocks := (d5.trans c5).trans (b5.trans a5)
  have hfa : D.fails ≤ 0 → (st4 D b).2.fails ≤ 0 := fun h => d6 (c6 (b6 (a6 h)))
  have d2 : (st4 D b).2.off = false := d2
  have d4 : (st4 D b).2.B = [] := d4
  obtain ⟨E, hE⟩ : ∃ E, (st4 D b).2 = E := ⟨_, rfl⟩
  have h5 : st5 D b = remsP b.index E (idxP E) := by unfold st5; rw [hE]
  rw [h5]
  rw [hE] at hw hbl hfa d2 d4
  rcases hF with h0 | ⟨a, ha, h0⟩
  · rw [h0] at hw
    have hi : idxP E = [b.index] := idxP_of (by rw [hw]; show List.Perm _ (snIdx [snName b.index]); rw [ix_one hb]) (List.pairwise_singleton ..)
    right
    rw [hi, remsP, if_neg (by omega)]
    exact ⟨rfl, d2, .inl ⟨hw, .inl h0⟩, d4, hbl, hfa⟩
  · by_cases hab : a.index = b.index
    · have hw2 : E.F = [fileOf b] := by
        rw [hw, h0]
        simp [adel, hab]
      have hi : idxP E = [b.index] := idxP_of (by rw [hw2]; show List.Perm _ (snIdx [snName b.index]); rw [ix_one hb]) (List.pairwise_singleton ..)
      right
      rw [hi, remsP, if_neg (by omega)]
      exact ⟨rfl, d2, .inl ⟨hw2, .inr ⟨a, ha, h0, by omega⟩⟩, d4, hbl, hfa⟩
    · have hne2 := name_ne ha hb hab
      have hw2 : E.F = [fileOf a, fileOf b] := by
        rw [hw, h0, adel_none (by simpa using hne2.symm)]; rfl
      have hks : snIdx (E.F.map (·.1)) = [a.index, b.index] := by rw [hw2]; exact ix_two ha hb
      by_cases hlt : a.index < b.index
      · have hi : idxP E = [b.index, a.index] := idxP_of (by rw [hks]; exact List.Perm.swap ..) (by simp; omega)
        have hag : aget E.F (snName a.index) = some (wholeB a) := by rw [hw2]; simp [aget]
        rw [hi, remsP, if_neg (by omega), remsP, if_pos hlt]
        rcases rem_out d2 d4 hag with ⟨e1, e2, e3, e4, e5⟩ | ⟨e1, e2, e3, e4, e5, e6⟩
        · left
          rw [if_pos e2]
          refine ⟨?_, .inr ⟨a, ha, h0, hlt, rfl, e3, e4, by rw [e5, hw2]⟩⟩
          exact fdown hfa e1
        · right
          rw [if_neg (by rw [e1]; decide)]
          refine ⟨rfl, e2, .inl ⟨?_, .inr ⟨a, ha, h0, by omega⟩⟩, e4, by rw [← hbl]; exact e5, fun h => e6 (hfa h)⟩
          show (remD E (snName a.index)).F = _
          rw [e3, hw2]
          simp [adel, hne2.symm]
      · have hi : idxP E = [a.index, b.index] := idxP_of (by rw [hks]) (by simp; omega)
        right
        rw [hi, remsP, if_neg (by omega), remsP, if_neg (by omega)]
        exact ⟨rfl, d2, .inr ⟨a, ha, h0, by omega, hw2⟩, d4, hbl, hfa⟩
/-! ### Load -/
theorem readB_at {D : DS} {n : Nm} {s : By} (h1 : D.off = false) (hB : D.B = []) (ha : aget D.F n = some s) : readB D n = s := by
  unfold readB
  rw [if_neg (by simp [h1]), ha, hB]
  simp [pieces]
theorem loadL_hit {D : DS} {a : Sn} (ha : Sv a) (h1 : D.off = false) (hB : D.B = []) (hg : aget D.F (snName a.index) = some (wholeB a)) (L : List Int) : loadL D (a.index :: L) = some a := by
  rw [loadL, readB_at h1 hB hg, joinP_whole ha.i ha.g]
  dsimp only
  rw [if_pos rfl]
theorem snIdx_fresh (ns : List Nm) : snIdx (ns ++ [freshN]) = snIdx ns := by
  rw [snIdx_snoc, fresh_no_index]; simp
theorem load_none {D : DS} (hF : D.F = [] ∨ ∃ t, D.F = [(freshN, t)]) : loadP D = none := by
  have hi : idxP D = [] := idxP_of (by
    rcases hF with h | ⟨t, h⟩
    · rw [h]; exact List.Perm.refl _
    · rw [h]; show List.Perm _ (snIdx ([] ++ [freshN])); rw [snIdx_fresh]; exact List.Perm.refl _) List.Pairwise.nil
  unfold loadP
  rw [hi]
  split <;> rfl
theorem load_one {D : DS} {a : Sn} (ha : Sv a) (h1 : D.off = false) (hB : D.B = []) (hF : D.F = [fileOf a] ∨ ∃ t, D.F = [fileOf a, (freshN, t)]) : loadP D = some a := by
  have hi : idxP D = [a.index] := idxP_of (by
    rcases hF with h | ⟨t, h⟩
    · rw [h]; show List.Perm _ (snIdx [snName a.index]); rw [ix_one ha]
    · rw [h]; show List.Perm _ (snIdx ([snName a.index] ++ [freshN])); rw [snIdx_fresh, ix_one ha]) (List.pairwise_singleton ..)
  have hg : aget D.F (snName a.index) = some (wholeB a) := by
    rcases hF with h | ⟨t, h⟩
    · rw [h]; simp [aget]
    · rw [h]; simp [aget]
  unfold loadP
  rw [hi, if_neg (by simp [h1]), loadL_hit ha h1 hB hg]
theorem load_two {D : DS} {a b : Sn} (ha : Sv a) (hb : Sv b) (h1 : D.off = false) (hB : D.B = []) (hF : D.F = [fileOf a, fileOf b]) (hne : a.index ≠ b.index) : loadP D = some (if a.index < b.index then b else a) := by
  have hks : snIdx (D.F.map (·.1)) = [a.index, b.index] := by rw [hF]; exact ix_two ha hb
  have hne2 := name_ne ha hb hne
  unfold loadP
  rw [if_neg (by simp [h1])]
  by_cases hlt : a.index < b.index
  · have hi : idxP D = [b.index, a.index] := idxP_of (by rw [hks]; exact List.Perm.swap ..) (by simp; omega)
    rw [hi, loadL_hit hb h1 hB (by rw [hF]; simp [aget, hne2]), if_pos hlt]
  · have hi : idxP D = [a.index, b.index] := idxP_of (by rw [hks]) (by simp; omega)
    rw [hi, loadL_hit ha h1 hB (by rw [hF]; simp [aget]), if_neg hlt]
end Go.Proofs.YtbkhademplgicaaGreatDoor

namespace Go.Proofs.YtbkhademplgicaaGreatDoor
open Go.RowKit
set_option linter.unusedVariables false
set_option linter.unusedSimpArgs false
def Boo (b : Bool) (w : World) (e : Ending) (w' : World) : Prop := e = .returned (.bool b) ∧ Kp All w w'
theorem sl_at {A : Option Addr} {n c : Nat} {ks : List Nm} {w : World} (h : Sl A n c 1 (ks.map Value.string) w) {k : Nat} {s : Nm} (hs : ks[k]? = some s) : ∃ b o, A = some ⟨b, o, none⟩ ∧ w.cell? ⟨b, o + k, none⟩ = some (.string s) := by
  have hk := (List.getElem?_eq_some_iff.1 hs).1
  have hl := h.1
  rw [List.length_map, Nat.mul_one] at hl
  obtain ⟨b, o, e, hr⟩ := h.2.2 (by omega)
  exact ⟨b, o, e, hr k _ (by rw [List.getElem?_map, hs]; rfl)⟩
set_option maxRecDepth 100000 in
set_option maxHeartbeats 1000000 in
theorem texts_any (A B : Option Addr) (n c m d : Nat) (ks ls : List Nm) (r : Bool) (w : World) (h1 : Foot All (Sl A n c 1 (ks.map Value.string)) w) (h2 : Foot All (Sl B m d 1 (ls.map Value.string)) w) (hn : n ≤ 9223372036854775807) (hr : r = decide (ks = ls)) :
    Calls Tryz.prog 29 #[.slice A n c, .slice B m d] w (Boo r w) := by
  have H1 := hid h1; have H2 := hid h2
  have e1 : ks.length = n := by have := h1.now.1; rw [List.length_map, Nat.mul_one] at this; exact this
  have e2 : ls.length = m := by have := h2.now.1; rw [List.length_map, Nat.mul_one] at this; exact this
  have E1 := hid e1; have E2 := hid e2; have HR := hid hr
  clear h1 h2 e1 e2 hr
  by_cases hnm : n = m
  · subst hnm
    have hb : ((n : Int) == (n : Int)) = true := by simp
    go_enter Tryz.func29, Tryz.ntmps29
    go_wp2_with fail
    go_loopw [13] (fun i wr => ∃ k : Nat, k ≤ n ∧ i = .int .i64 k ∧ Hid (ks.take k = ls.take k) ∧ Hid (Kp All w wr)) (fun i _ => n - (intOf i).toNat)
    case atStart => exact ⟨0, Nat.zero_le _, rfl, by simp [Hid], Kp.refl _ _⟩
    case round =>
      obtain ⟨k, hk, rfl, heq, hkp⟩ := hrel
      by_cases hlt : k < n
      · have hb0 : decide ((k : Int) < (n : Int)) = true := decide_eq_true (by omega)
        have i0 : (0 : Int) ≤ (k : Int) := by omega
        have i1 : (k : Int) < (n : Int) := by omega
        obtain ⟨s, hs⟩ : ∃ s, ks[k]? = some s := ⟨_, List.getElem?_eq_getElem (by rw [E1.out]; exact hlt)⟩
        obtain ⟨t, ht⟩ : ∃ t, ls[k]? = some t := ⟨_, List.getElem?_eq_getElem (by rw [E2.out]; exact hlt)⟩
        obtain ⟨b1, o1, rfl, c1⟩ := sl_at (H1.out wr hkp.out) hs
        obtain ⟨b2, o2, rfl, c2⟩ := sl_at (H2.out wr hkp.out) ht
        have HSK := hid hs; have HTK := hid ht
        clear hs ht
        by_cases hst : s = t
        · subst hst
          go_wp2_with fail
          go_quiet (fail)
          go_wp2_with fail
          refine ⟨⟨k + 1, by omega, by go_num, ?_, hkp.out.drewN _⟩, by simp [intOf]; omega⟩
          exact hid (by rw [List.take_add_one, List.take_add_one, HSK.out, HTK.out, heq.out])
        · have hne1 := bs_ne hst
          have hne2 : (s.toList == t.toList) = false := beq_eq_false_iff_ne.2 hne1
          have HST := hid hst
          clear hst
          go_wp2_with fail
          go_quiet (fail)
          go_wp2_with fail
          go_ret
          have : r = false := by
            rw [HR.out]
            refine decide_eq_false fun e => HST.out ?_
            have h1 := HSK.out
            rw [e, HTK.out] at h1
            injection h1 with h1
            exact h1.symm
          exact ⟨by rw [this]; rfl, hkp.out.drewN _⟩
      · have hb0 : decide ((k : Int) < (n : Int)) = false := decide_eq_false (by omega)
        obtain rfl : k = n := by omega
        go_wp2_with fail
        go_ret
        have : r = true := by
          have h1 := heq.out
          rw [List.take_of_length_le (by rw [E1.out]; exact Nat.le_refl _), List.take_of_length_le (by rw [E2.out]; exact Nat.le_refl _)] at h1
          rw [HR.out]
          exact decide_eq_true h1
        exact ⟨by rw [this]; rfl, hkp.out⟩
  · have hb : ((n : Int) == (m : Int)) = false := beq_eq_false_iff_ne.2 (by omega)
    have hb' : ¬ (n : Int) = (m : Int) := by omega
    have HNM := hid hnm
    clear hnm
    go_enter Tryz.func29, Tryz.ntmps29
    go_wp2_with fail
    go_ret
    have : r = false := by
      rw [HR.out]
      exact decide_eq_false fun e => HNM.out (by rw [← E1.out, ← E2.out, e])
    exact ⟨by rw [this]; rfl, Kp.refl _ _⟩
end Go.Proofs.YtbkhademplgicaaGreatDoor

namespace Go.Proofs.YtbkhademplgicaaGreatDoor
open Go.RowKit
set_option linter.unusedVariables false
set_option linter.unusedSimpArgs false
def plainSn (n : Int) : Sn := ⟨n, 1, [1], [], [97, 98, 99]⟩
def PlR (n : Int) (w : World) (e : Ending) (w' : World) : Prop := Kp All w w' ∧ ∃ VA DA, e = .returned (.agg #[.int .i64 n, .int .i64 1, .slice VA 1 1, .slice none 0 0, .slice DA 3 3]) ∧ SnpS (fun i => w.heap.size ≤ i) (plainSn n) VA none DA 1 1 0 0 3 3 w'
set_option maxRecDepth 100000 in
set_option maxHeartbeats 1000000 in
theorem plain12_any (n : Int) (h0 : -9223372036854775808 ≤ n) (h1 : n ≤ 9223372036854775807) (w : World) :
    Calls Tryz.prog 28 #[.int .i64 n] w (PlR n w) := by
  have b1 := blk_new w (Obj.cells #[.int .i64 0, .int .i64 0, .slice none 0 0, .slice none 0 0, .slice none 0 0] 27)
  have kc := Lib.run_convert_bytes_const (P := Tryz.prog) ((w.alloc (Obj.cells #[.int .i64 0, .int .i64 0, .slice none 0 0, .slice none 0 0, .slice none 0 0] 27)).alloc (.cells #[.int .i64 1] 3)) 25 5 #[.int .u8 97, .int .u8 98, .int .u8 99] 3 3 Tryz.underlying25 Tryz.underlying5
  simp only [World.size_alloc] at kc
  have b1' := blk_alloc (blk_alloc b1 (.cells #[.int .i64 1] 3)) (.cells #[.int .u8 97, .int .u8 98, .int .u8 99] 5 (3, 4))
  have c1 := blk_cell b1'
  have f1 := blk_free b1'
  clear b1 b1'
  go_enter Tryz.func28, Tryz.ntmps28
  go_wp2_with fail
  have b1 := blk_new w (Obj.cells #[.int .i64 n, .int .i64 1, .slice (some ⟨w.heap.size + 1, 0, none⟩) 1 1, .slice none 0 0, .slice (some ⟨w.heap.size + 1 + 1, 0, none⟩) 3 3] 27)
  have b2 := blk_new (w.alloc (Obj.cells #[.int .i64 n, .int .i64 1, .slice (some ⟨w.heap.size + 1, 0, none⟩) 1 1, .slice none 0 0, .slice (some ⟨w.heap.size + 1 + 1, 0, none⟩) 3 3] 27)) (.cells #[.int .i64 1] 3)
  have b3 := blk_new ((w.alloc (Obj.cells #[.int .i64 n, .int .i64 1, .slice (some ⟨w.heap.size + 1, 0, none⟩) 1 1, .slice none 0 0, .slice (some ⟨w.heap.size + 1 + 1, 0, none⟩) 3 3] 27)).alloc (.cells #[.int .i64 1] 3)) (.cells #[.int .u8 97, .int .u8 98, .int .u8 99] 5 (3, 4))
  simp only [World.size_alloc] at b2 b3
  have b1' := blk_alloc (blk_alloc b1 (.cells #[.int .i64 1] 3)) (.cells #[.int .u8 97, .int .u8 98, .int .u8 99] 5 (3, 4))
  have h2 := blk_alloc b2 (.cells #[.int .u8 97, .int .u8 98, .int .u8 99] 5 (3, 4))
  have h3 := b3
  have kp := ((Kp.al w (Obj.cells #[.int .i64 n, .int .i64 1, .slice (some ⟨w.heap.size + 1, 0, none⟩) 1 1, .slice none 0 0, .slice (some ⟨w.heap.size + 1 + 1, 0, none⟩) 3 3] 27)).alloc (.cells #[.int .i64 1] 3)).alloc (.cells #[.int .u8 97, .int .u8 98, .int .u8 99] 5 (3, 4))
  have cF := blk_cell b1'
  refine bodyPost_ret (v := .agg #[.int .i64 n, .int .i64 1, .slice (some ⟨w.heap.size + 1, 0, none⟩) 1 1, .slice none 0 0, .slice (some ⟨w.heap.size + 1 + 1, 0, none⟩) 3 3]) (by simp [results, Tryz.results28, go_sem, cF]) rfl ⟨kp, some ⟨w.heap.size + 1, 0, none⟩, some ⟨w.heap.size + 1 + 1, 0, none⟩, rfl, ?_⟩
  refine ⟨fun u hu => ⟨rfl, Nat.le_refl _, fun _ => ⟨_, 0, rfl, fun j z hj => ?_⟩⟩, fun u hu => ⟨rfl, Nat.le_refl _, fun h => absurd h (by simp)⟩, rfl, rfl, fun u hu => ⟨rfl, Nat.le_refl _, fun _ => ⟨_, 0, rfl, fun j z hj => ?_⟩⟩, rfl, ?_⟩
  · rw [Nat.zero_add, blk_cell (hu.heap h2 (by show w.heap.size ≤ _; omega)), ← Array.getElem?_toList]
    exact hj
  · rw [Nat.zero_add, blk_cell (hu.heap h3 (by show w.heap.size ≤ _; omega)), ← Array.getElem?_toList]
    exact hj
  · refine ⟨⟨h0, h1⟩, ⟨by show (-9223372036854775808 : Int) ≤ 1; omega, by show (1 : Int) ≤ _; omega⟩, fun m hm => ?_, fun m hm => by cases hm⟩
    rw [List.mem_singleton.1 hm]
    omega
end Go.Proofs.YtbkhademplgicaaGreatDoor

namespace Go.Proofs.YtbkhademplgicaaGreatDoor
open Go.RowKit
set_option linter.unusedVariables false
set_option linter.unusedSimpArgs false
theorem Rm.rems {k M : Nat} {i : Int} (l : List Int) : ∀ {D : DS}, Rm (k + l.length) M D → Rm k M (remsP i D l).2 := by
  induction l with
  | nil => intro D h; exact h
  | cons b l ih =>
    intro D h
    have h0 : Rm (k + l.length + 1) M D := h
    have h1 : Rm (k + l.length) M (remD D (snName b)) := h0.rem _
    rw [remsP]
    split
    · split
      · exact h1.mono (by omega) (Nat.le_refl _)
      · exact ih h1
    · exact ih (h0.mono (by omega) (Nat.le_refl _))
theorem Rm.save {k M : Nat} {D : DS} {x : Sn} (hM : M ≤ 500) (h : Rm (k + 2000) M D) (h1 : D.off = false) (hg : goodSnap x = true) (hi : x.index ≤ 999999999) : Rm k (M + 2) (saveP D x).2 := by
  obtain ⟨hq1, _⟩ := chunks_small hg
  have m1 : Rm (k + 1999) (M + 1) (st1 D x).2 := Rm.cre (k := k + 1999) h (by decide)
  have m2 : Rm (k + 999) (M + 1) (st2 D x).2 := Rm.apps (k := k + 999) (chunksB x) (m1.mono (by omega) (Nat.le_refl _))
  have m3 : Rm (k + 998) (M + 1) (st3 D x).2 := Rm.sync (k := k + 998) m2
  have m4 : Rm (k + 997) (M + 2) (st4 D x).2 := Rm.ren (k := k + 997) m3 (snName_size _)
  have m5 : Rm k (M + 2) (st5 D x).2 := Rm.rems (idxP (st4 D x).2) (m4.mono (by have h1 := idxP_len (st4 D x).2; have h2 := m4.fl; omega) (Nat.le_refl _))
  rw [saveP_eq h1 hg hi]
  split
  · split
    · split
      · split
        · exact m5
        · exact m4.mono (by omega) (Nat.le_refl _)
      · exact m3.mono (by omega) (by omega)
    · exact m2.mono (by omega) (by omega)
  · exact m1.mono (by omega) (by omega)
theorem plain_good (n : Int) (h : 0 < n) : goodSnap (plainSn n) = true := by
  have h1 : goodConf [1] [] = true := by decide
  unfold goodSnap
  show (decide (0 < n) && (decide ((0 : Int) < 1) && (goodConf [1] [] && decide (3 ≤ 1048576)))) = true
  rw [h1]
  simp [h]
theorem plain_sv (n : Int) (h : 0 < n) (hm : n ≤ 999999999) : Sv (plainSn n) := by
  refine ⟨⟨⟨?_, ?_⟩, ⟨by show (-9223372036854775808 : Int) ≤ 1; omega, by show (1 : Int) ≤ _; omega⟩, fun m hm => ?_, fun m hm => by cases hm⟩, plain_good n h, hm⟩
  · show (-9223372036854775808 : Int) ≤ n; omega
  · show n ≤ 9223372036854775807; omega
  · rw [List.mem_singleton.1 hm]; omega
theorem plain_len (n : Int) : (wholeB (plainSn n)).length ≤ 5000 := by
  have h1 := headB_len (plainSn n)
  have h2 := whole_len (plainSn n)
  have key : ∀ l : List Int, (l.flatMap encZg).length ≤ 9 * l.length := by
    intro l
    induction l with
    | nil => simp
    | cons x l ih =>
      have := enc_len_le (zig x)
      rw [List.flatMap_cons, List.length_append, List.length_cons, encZg]; omega
  have h3 : (encSnap (plainSn n)).length ≤ 200 := by
    have k1 := key [1]; have k2 := key []
    have a1 := enc_len_le (zig n); have a2 := enc_len_le (zig 1)
    have a3 := enc_len_le 1; have a4 := enc_len_le 0; have a6 := enc_len_le (0 + 1)
    have a5 := encText_len (strOfB [97, 98, 99])
    have e5 : (strOfB [97, 98, 99]).size = 3 := rfl
    simp only [encSnap, encConf, encList, List.length_append, encZg, plainSn] at *
    simp only [List.length_cons, List.length_nil] at *
    omega
  have h4 : (partsB (plainSn n)).length ≤ 1 := by
    rw [partsB_range, List.length_map, List.length_range]
    omega
  omega
theorem nm9 : snName 9 = ⟨#[115, 110, 97, 112, 45, 57]⟩ := by
  rw [snName_eq (by decide) (by decide)]
  simp [Lib.decDigits, pre5]
end Go.Proofs.YtbkhademplgicaaGreatDoor

namespace Go.Proofs.YtbkhademplgicaaGreatDoor
open Go.RowKit
set_option linter.unusedVariables false
set_option linter.unusedSimpArgs false
theorem SnpS.none' {S : Nat → Prop} {x : Sn} {VA LA DA : Option Addr} {vn vc ln lc dn dc : Nat} {w : World} {B : Nat} (h : SnpS (fun i => B ≤ i) x VA LA DA vn vc ln lc dn dc w) (hS : ∀ i, B ≤ i → S i) : SnpS S x VA LA DA vn vc ln lc dn dc w := h.mono hS
theorem lives_plain : ∃ D1 D2 : DS, saveP ⟨5000, false, 0, 0, 0, [], []⟩ (plainSn 5) = (0, D1) ∧ saveP D1 (plainSn 9) = (0, D2) ∧ Rm 2000 2 D1 ∧ Rm 0 4 D2 ∧ D2.off = false ∧ D2.F = [fileOf (plainSn 9)] ∧ loadP D2 = some (plainSn 9) ∧ (∀ n ∈ idxP D2, (readB D2 (snName n)).length ≤ 4000000) := by
  have s5 := plain_sv 5 (by decide) (by decide)
  have s9 := plain_sv 9 (by decide) (by decide)
  have l5 := plain_len 5; have l9 := plain_len 9
  obtain ⟨D0, hD0⟩ : ∃ D0 : DS, D0 = ⟨5000, false, 0, 0, 0, [], []⟩ := ⟨_, rfl⟩
  have f0 : D0.F = [] := by rw [hD0]
  have b0 : D0.blocks = 5000 := by rw [hD0]
  have o0 : D0.off = false := by rw [hD0]
  have u0 : usedOf D0.F [] = 0 := by rw [f0]; rfl
  have r0 : Rm 4000 0 D0 := by rw [hD0]; exact ⟨by simp, by simp, by simp, by simp, fun x hx => (by cases hx), Nat.le_refl _⟩
  have nl : ∀ n, n ≤ 5000 → needs n ≤ 100 := fun n h => by unfold needs; omega
  rw [← hD0]
  rcases save_out (b := plainSn 5) o0 (by rw [hD0]) (.inl f0) s5 (by rw [u0, b0]; have := nl _ l5; omega) with ⟨h, _⟩ | ⟨a1, a2, a3, a4, a5, a6⟩
  · rw [hD0] at h; exact absurd h (by simp)
  have r1 := r0.save (k := 2000) (by omega) o0 s5.g s5.m
  have a6' := a6 (by rw [hD0]; exact Int.le_refl _)
  obtain ⟨E1, D1, hE⟩ : ∃ E1 D1, saveP D0 (plainSn 5) = (E1, D1) := ⟨_, _, rfl⟩
  rw [hE] at a1 a2 a3 a4 a5 a6' r1
  dsimp only at a1 a2 a3 a4 a5 a6' r1
  have f1 : D1.F = [fileOf (plainSn 5)] := by
    rcases a3 with ⟨h, _⟩ | ⟨a, _, h, _⟩
    · exact h
    · rw [f0] at h; cases h
  have u1 : usedOf D1.F [] ≤ 100 := by
    have := nl _ l5
    rw [f1]
    simp only [usedOf, List.map_cons, List.map_nil, List.sum_cons, List.sum_nil, moreOf, Nat.add_zero]
    exact this
  rcases save_out (b := plainSn 9) a2 a4 (.inr ⟨_, s5, f1⟩) s9 (by rw [a5, b0]; have := nl _ l9; omega) with ⟨h, _⟩ | ⟨c1, c2, c3, c4, c5, c6⟩
  · omega
  have r2 := Rm.save (k := 0) (by omega) r1 a2 s9.g s9.m
  obtain ⟨E2, D2, hE2⟩ : ∃ E2 D2, saveP D1 (plainSn 9) = (E2, D2) := ⟨_, _, rfl⟩
  rw [hE2] at c1 c2 c3 c4 c5 r2
  dsimp only at c1 c2 c3 c4 c5 r2
  have f2 : D2.F = [fileOf (plainSn 9)] := by
    rcases c3 with ⟨h, _⟩ | ⟨a, ha, h, h2, _⟩
    · exact h
    · rw [f1] at h
      injection h with h _
      injection h with h _
      have := snName_inj s5.p s5.m ha.p ha.m h
      have h3 : (9 : Int) < a.index := h2
      rw [← this] at h3
      exact absurd h3 (by decide)
  refine ⟨D1, D2, by rw [hE, a1], by rw [hE2, c1], r1, r2, c2, f2, load_one s9 c2 c4 (.inl f2), fun n hn => ?_⟩
  have hk := (idxP_mem hn).2.2
  rw [f2] at hk
  have hk : snName n = snName (plainSn 9).index := by simpa using hk
  rw [hk, readB_at c2 c4 (s := wholeB (plainSn 9)) (by rw [f2]; simp [aget])]
  omega
set_option maxRecDepth 100000 in
set_option maxHeartbeats 1000000 in
theorem lives12_any (w : World) (hg : Gl w) : Calls Tryz.prog 8 #[] w (Boo true w) := by
  obtain ⟨D1, D2, e1, e2, r1, r2, o2, f2, l2, z2⟩ := lives_plain
  have r0 : Rm 2000 0 ⟨5000, false, 0, 0, 0, [], []⟩ := ⟨by simp, by simp, by simp, by simp, fun x hx => (by cases hx), Nat.le_refl _⟩
  have E1 := hid e1; have E2 := hid e2; have R1 := hid r1; have R2 := hid r2; have O2 := hid o2; have F2 := hid f2; have L2 := hid l2; have Z2 := hid z2; have R0 := hid r0; have HG := hid hg
  clear e1 e2 r1 r2 o2 f2 l2 z2 r0 hg
  go_enter Tryz.func8, Tryz.ntmps8
  go_wp2_with fail
  refine (dnew_any 5000 (by omega) (by omega) w).mono ?_
  rintro e w1 ⟨⟨p, ro, rfl, hd, hro⟩, hk1⟩
  obtain ⟨lt1, lt2⟩ : 0 < w.heap.size ∧ 2 < w.heap.size := by
    obtain ⟨_, _, _, e1, _⟩ := HG.out.e
    obtain ⟨_, _, e2⟩ := HG.out.p
    exact ⟨(Array.getElem?_eq_some_iff.1 e1).1, (Array.getElem?_eq_some_iff.1 e2).1⟩
  have G1 := hid (hro _ lt1); have G2 := hid (hro _ lt2)
  have HD := hid hd; have HK1 := hid hk1; have HRO := hid hro
  clear hd hk1 hro lt1 lt2
  go_wp2_with fail
  refine (plain12_any 5 (by omega) (by omega) w1).mono ?_
  rintro e w2 ⟨hk2, VA, DA, rfl, hs2⟩
  have HK2 := hid hk2; have HS2 := hid (hs2.none' HD.out.rnew)
  clear hk2 hs2
  go_wp2_with fail
  refine (save_any p ro _ (by omega) R0.out (plainSn 5) VA none DA 1 1 0 0 3 3 (by omega) w2 (HG.out.all (HK1.out.trans HK2.out)) G1.out G2.out (HD.out.all HK2.out) HS2.out).mono ?_
  rw [E1.out]
  rintro e w3 ⟨rfl, ro3, hd3, hr3, hk3⟩
  have H3 := hid hd3
  have HG3 := hid ((HG.out.all (HK1.out.trans HK2.out)).kept hk3 G1.out G2.out)
  obtain ⟨lt1, lt2⟩ : 0 < w2.heap.size ∧ 2 < w2.heap.size := by
    obtain ⟨_, _, _, e1, _⟩ := (HG.out.all (HK1.out.trans HK2.out)).e
    obtain ⟨_, _, e2⟩ := (HG.out.all (HK1.out.trans HK2.out)).p
    exact ⟨(Array.getElem?_eq_some_iff.1 e1).1, (Array.getElem?_eq_some_iff.1 e2).1⟩
  have GA := hid (hr3 _ lt1 G1.out); have GB := hid (hr3 _ lt2 G2.out)
  have HK3 := hid (show Kp All w w3 from (HK1.out.trans HK2.out).then hk3 (fun i hi _ => HRO.out i hi))
  have HR3 := hid (fun b (hb : b < w.heap.size) => hr3 b (Nat.lt_of_lt_of_le hb (HK1.out.trans HK2.out).size) (HRO.out b hb))
  clear hd3 hr3 hk3 lt1 lt2
  go_wp2_with fail
  refine (plain12_any 9 (by omega) (by omega) w3).mono ?_
  rintro e w4 ⟨hk4, VB, DB, rfl, hs4⟩
  have HK4 := hid hk4; have HS4 := hid (hs4.none' H3.out.rnew)
  clear hk4 hs4
  go_wp2_with fail
  refine (save_any p ro3 _ (M := 2) (by omega) R1.out (plainSn 9) VB none DB 1 1 0 0 3 3 (by omega) w4 (HG3.out.all HK4.out) GA.out GB.out (H3.out.all HK4.out) HS4.out).mono ?_
  rw [E2.out]
  rintro e w5 ⟨rfl, ro5, hd5, hr5, hk5⟩
  have H5 := hid hd5
  have HG5 := hid ((HG3.out.all HK4.out).kept hk5 GA.out GB.out)
  have HK5 := hid (show Kp All w w5 from (HK3.out.trans HK4.out).then hk5 (fun i hi _ => HR3.out i hi))
  clear hd5 hr5 hk5
  go_wp2_with fail
  refine (load_any p ro5 D2 R2.out.nm (by have := R2.out.fl; omega) Z2.out w5 HG5.out H5.out).mono ?_
  rintro e w6 ⟨hk6, hl6⟩
  rw [L2.out] at hl6
  dsimp only at hl6
  obtain ⟨VC, LC, DC, vc, lc, dc, rfl, hs6⟩ := hl6
  have HK6 := hid hk6
  clear hk6 hs6
  go_wp2_with fail
  have ka := Kp.al w6 (.cells #[.int .i64 9, .int .i64 (plainSn 9).term, .slice VC (plainSn 9).V.length vc, .slice LC (plainSn 9).L.length lc, .slice DC (plainSn 9).data.length dc] 27)
  obtain ⟨w7, hw7⟩ : ∃ w7, w7 = w6.alloc (.cells #[.int .i64 9, .int .i64 (plainSn 9).term, .slice VC (plainSn 9).V.length vc, .slice LC (plainSn 9).L.length lc, .slice DC (plainSn 9).data.length dc] 27) := ⟨_, rfl⟩
  rw [← hw7] at ka ⊢
  have HK7 := hid (HK6.out.trans ka)
  clear hw7 ka
  refine (list_any p ro5 D2 O2.out R2.out.nm (by have := R2.out.fl; omega) w7 (H5.out.all HK7.out)).mono ?_
  rintro e w8 ⟨v8, ks, rfl, hp8, _, ho8, hk8⟩
  have hks : ks = [⟨#[115, 110, 97, 112, 45, 57]⟩] := by
    rw [F2.out] at hp8
    have h1 := List.perm_singleton.1 hp8
    rw [h1]
    show [snName 9] = _
    rw [nm9]
  subst hks
  obtain ⟨A8, c8, rfl⟩ := own_shape ho8
  have HF8 := hid (own_footA ho8)
  have HK8 := hid (HK5.out.trans (HK7.out.trans hk8))
  have b9 := blk_new w8 (.cells #[.string ⟨#[115, 110, 97, 112, 45, 57]⟩] 9)
  have k9 := Kp.al w8 (.cells #[.string ⟨#[115, 110, 97, 112, 45, 57]⟩] 9)
  have HB9 := hid b9; have K9 := hid k9
  clear hp8 ho8 hk8 b9 k9
  go_wp2_with fail
  refine (texts_any A8 (some ⟨w8.heap.size, 0, none⟩) 1 c8 1 1 [⟨#[115, 110, 97, 112, 45, 57]⟩] [⟨#[115, 110, 97, 112, 45, 57]⟩] true _ (HF8.out.step K9.out) (fun u hu => ⟨rfl, Nat.le_refl _, fun _ => ⟨_, 0, rfl, fun j z hj => by rw [Nat.zero_add, blk_cell (hu.heap HB9.out trivial), ← Array.getElem?_toList]; exact hj⟩⟩) (by omega) (by simp)).mono ?_
  rintro e w10 ⟨rfl, hk10⟩
  have HK10 := hid (HK8.out.trans (K9.out.trans hk10))
  clear hk10
  go_wp2_with fail
  go_ret
  exact ⟨rfl, HK10.out⟩
end Go.Proofs.YtbkhademplgicaaGreatDoor

namespace Go.Proofs.YtbkhademplgicaaGreatDoor
open Go.RowKit
set_option linter.unusedVariables false
set_option linter.unusedSimpArgs false
theorem snName_ne {n : Int} (h1 : 1 ≤ n) (h2 : n ≤ 999999999) : snName n ≠ ⟨#[]⟩ := by
  rw [snName_eq h1 h2]
  intro e
  have h := congrArg (fun s : ByteArray => s.data.toList.length) e
  simp [pre5] at h
set_option maxRecDepth 100000 in
set_option maxHeartbeats 1000000 in
theorem snapNames_any (n m : Int) (hn0 : -9223372036854775808 ≤ n) (hn1 : n ≤ 9223372036854775807) (hm0 : -9223372036854775808 ≤ m) (hm1 : m ≤ 9223372036854775807) (w : World) (hg : Gl w) :
    Calls Tryz.prog 5 #[.int .i64 n, .int .i64 m] w (Boo true w) := by
  have HG := hid hg
  clear hg
  by_cases a : n < 1 ∨ 999999999 < n
  · have HN := hid (show snName n = ⟨#[]⟩ by rw [snName, if_pos a])
    by_cases a1 : n < 1
    · have d1 : decide (n < 1) = true := decide_eq_true a1
      go_enter Tryz.func5, Tryz.ntmps5
      go_wp2_with fail
      refine (name_any n hn0 hn1 w HG.out).mono ?_
      rw [HN.out]
      rintro e w1 ⟨rfl, hk1⟩
      have HK1 := hid hk1
      clear hk1
      go_wp2_with fail
      refine (name_any m hm0 hm1 w1 (HG.out.all HK1.out)).mono ?_
      rintro e w2 ⟨rfl, hk2⟩
      have HK2 := hid (HK1.out.trans hk2)
      clear hk2
      go_wp2_with fail
      refine (lives12_any w2 (HG.out.all HK2.out)).mono ?_
      rintro e w3 ⟨rfl, hk3⟩
      have HK3 := hid (HK2.out.trans hk3)
      clear hk3
      go_wp2_with fail
      go_ret
      exact ⟨rfl, HK3.out⟩
    · have d1 : decide (n < 1) = false := decide_eq_false a1
      have d2 : decide (999999999 < n) = true := decide_eq_true (by omega)
      go_enter Tryz.func5, Tryz.ntmps5
      go_wp2_with fail
      refine (name_any n hn0 hn1 w HG.out).mono ?_
      rw [HN.out]
      rintro e w1 ⟨rfl, hk1⟩
      have HK1 := hid hk1
      clear hk1
      go_wp2_with fail
      refine (name_any m hm0 hm1 w1 (HG.out.all HK1.out)).mono ?_
      rintro e w2 ⟨rfl, hk2⟩
      have HK2 := hid (HK1.out.trans hk2)
      clear hk2
      go_wp2_with fail
      refine (lives12_any w2 (HG.out.all HK2.out)).mono ?_
      rintro e w3 ⟨rfl, hk3⟩
      have HK3 := hid (HK2.out.trans hk3)
      clear hk3
      go_wp2_with fail
      go_ret
      exact ⟨rfl, HK3.out⟩
  have d1 : decide (n < 1) = false := decide_eq_false (by omega)
  have d2 : decide (999999999 < n) = false := decide_eq_false (by omega)
  have e1 : (snName n).toList.isEmpty = false := toList_ne (Nat.pos_of_ne_zero fun h => snName_ne (n := n) (by omega) (by omega) (ByteArray.ext (Array.eq_empty_of_size_eq_zero h)))
  have hI := snIndex_name (n := n) (by omega) (by omega)
  have hsz := snName_size n
  have hgd := snName_good (n := n) (by omega) (by omega)
  obtain ⟨x, hx⟩ : ∃ x, snName n = x := ⟨_, rfl⟩
  obtain ⟨y, hy⟩ : ∃ y, snName m = y := ⟨_, rfl⟩
  have HNX := hid (name_any n hn0 hn1)
  have HNY := hid (name_any m hm0 hm1)
  have HIX := hid (index_any x)
  have hxy : (x = y) ↔ n = m := by
    rw [← hx, ← hy]
    constructor
    · intro e
      by_cases b : m < 1 ∨ 999999999 < m
      · have : snName m = ⟨#[]⟩ := by rw [snName, if_pos b]
        exact absurd (e.trans this) (snName_ne (by omega) (by omega))
      · exact snName_inj (by omega) (by omega) (by omega) (by omega) e
    · intro e; rw [e]
  rw [hx] at HNX e1 hI hsz hgd
  rw [hy] at HNY
  rw [hI] at HIX
  have HG2 := hid (good_any x (by omega))
  rw [hgd] at HG2
  clear hx hy hI hgd hsz
  by_cases hnm : n = m
  · have exy := hxy.2 hnm
    subst hnm exy
    clear hxy
    go_enter Tryz.func5, Tryz.ntmps5
    go_wp2_with fail
    refine (HNX.out w HG.out).mono ?_
    rintro e w1 ⟨rfl, hk1⟩
    have HK1 := hid hk1
    clear hk1
    go_wp2_with fail
    refine (HNY.out w1 (HG.out.all HK1.out)).mono ?_
    rintro e w2 ⟨rfl, hk2⟩
    have HK2 := hid (HK1.out.trans hk2)
    clear hk2
    go_wp2_with fail
    refine (HIX.out w2 (HG.out.all HK2.out)).mono ?_
    rintro e w3 ⟨rfl, hk3⟩
    have HK3 := hid (HK2.out.trans hk3)
    clear hk3
    go_wp2_with fail
    refine (HG2.out w3).mono ?_
    rintro e w4 ⟨rfl, rfl⟩
    go_wp2_with fail
    refine (lives12_any w3 (HG.out.all HK3.out)).mono ?_
    rintro e w5 ⟨rfl, hk5⟩
    have HK5 := hid (HK3.out.trans hk5)
    clear hk5
    go_wp2_with fail
    go_ret
    exact ⟨rfl, HK5.out⟩
  · have f1 : ¬ x.toList = y.toList := bs_ne (fun e => hnm (hxy.1 e))
    have f2 : (x.toList == y.toList) = false := beq_eq_false_iff_ne.2 f1
    have f3 : (n == m) = false := by simpa using hnm
    clear hxy
    go_enter Tryz.func5, Tryz.ntmps5
    go_wp2_with fail
    refine (HNX.out w HG.out).mono ?_
    rintro e w1 ⟨rfl, hk1⟩
    have HK1 := hid hk1
    clear hk1
    go_wp2_with fail
    refine (HNY.out w1 (HG.out.all HK1.out)).mono ?_
    rintro e w2 ⟨rfl, hk2⟩
    have HK2 := hid (HK1.out.trans hk2)
    clear hk2
    go_wp2_with fail
    refine (HIX.out w2 (HG.out.all HK2.out)).mono ?_
    rintro e w3 ⟨rfl, hk3⟩
    have HK3 := hid (HK2.out.trans hk3)
    clear hk3
    go_wp2_with fail
    refine (HG2.out w3).mono ?_
    rintro e w4 ⟨rfl, rfl⟩
    go_wp2_with fail
    refine (lives12_any w3 (HG.out.all HK3.out)).mono ?_
    rintro e w5 ⟨rfl, hk5⟩
    have HK5 := hid (HK3.out.trans hk5)
    clear hk5
    go_wp2_with fail
    go_ret
    exact ⟨rfl, HK5.out⟩
end Go.Proofs.YtbkhademplgicaaGreatDoor
