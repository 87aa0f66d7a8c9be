/- What reading sessions makes of any bytes (plain), and the way back of a table's own bytes. No condition. -/
import Derived.Test.YtkipijdbkkcioaaGA
import Derived.Test.YtkipijdbkkcioaaCR
namespace Go.Proofs.Ytkipijdbkkcioaa
open Go.RowKit
set_option linter.unusedVariables false
set_option linter.unusedSimpArgs false
theorem strOfB_size (xs : By) : (strOfB xs).size = xs.length := by simp [strOfB, ByteArray.size]
theorem strOfB_list (xs : By) : (strOfB xs).data.toList = xs := by simp [strOfB]
attribute [local irreducible] readP iV tV nX tX encReply enc zig encZg encText strOfB cntX
abbrev Tb := List (Int × Int × RD)
/-- The sessions. -/
def tabP : Nat → Sx → Int → Tb → Option (Tb × Sx)
  | 0, s, _, acc => some (acc, s)
  | n + 1, s, ahead, acc => if s.2 = true then some (acc, s) else
    match readP (tV (nX (nX s))).data.toList with
    | none => none
    | some r => if iV s ≤ ahead ∨ iV (nX s) < 0 then none else tabP n (tX (nX (nX s))) (iV s) (acc ++ [(iV s, iV (nX s), r)])
/-- What reading sessions makes of bytes. -/
def readTab (xs : By) : Option Tb :=
  match tabP (cntX xs false 16).1 (cntX xs false 16).2 0 [] with
  | none => none
  | some (T, s) => if endP s = true then some T else none
/-! The way back -/
def Wr (x : Int × Int × RD) : Prop := EnOk x ∧ 0 ≤ x.2.1 ∧ x.2.2.val.size < 2 ^ 64 ∧ ∀ p ∈ x.2.2.pairs, p.1.size < 2 ^ 64 ∧ p.2.size < 2 ^ 64
theorem tabP_enc (T acc : Tb) (ahead : Int) (hw : ∀ x ∈ T, Wr x) (ha : ∀ x ∈ T, ahead < x.1) (hs : (keysL T).Pairwise (· < ·)) : tabP T.length (T.flatMap encEntry, false) ahead acc = some (acc ++ T, ([], false)) := by
  induction T generalizing acc ahead with
  | nil => simp [tabP]
  | cons x T ih =>
    obtain ⟨⟨e1, e2, e3, e4, e5, e6⟩, h0, hv, hp⟩ := hw x (List.mem_cons_self ..)
    have e : (x :: T).flatMap encEntry = encZg x.1 ++ (encZg x.2.1 ++ (encText (strOfB (encReply x.2.2)) ++ T.flatMap encEntry)) := by
      rw [List.flatMap_cons, encEntry]; simp only [List.append_assoc]
    obtain ⟨a1, a2⟩ := iV_enc x.1 e1 e2 (encZg x.2.1 ++ (encText (strOfB (encReply x.2.2)) ++ T.flatMap encEntry))
    obtain ⟨b1, b2⟩ := iV_enc x.2.1 e3 e4 (encText (strOfB (encReply x.2.2)) ++ T.flatMap encEntry)
    have hsz := strOfB_size (encReply x.2.2)
    obtain ⟨c1, c2⟩ := tV_enc (strOfB (encReply x.2.2)) (by omega) (T.flatMap encEntry)
    have hd := strOfB_list (encReply x.2.2)
    have hr := readP_enc x.2.2 e5 hv hp
    have hx := ha x (List.mem_cons_self ..)
    simp only [keysL, List.map_cons, List.pairwise_cons] at hs
    rw [List.length_cons, tabP, e, a1, a2, b1, b2, c1, c2, hd, hr]
    simp only [Bool.false_eq_true, if_false]
    rw [if_neg (by omega), ih _ _ (fun y hy => hw y (List.mem_cons_of_mem _ hy)) (fun y hy => hs.1 y.1 (List.mem_map.2 ⟨y, hy, rfl⟩)) hs.2]
    simp
theorem readTab_enc (T : Tb) (hl : T.length ≤ 16) (hw : ∀ x ∈ T, Wr x) (ha : ∀ x ∈ T, 0 < x.1) (hs : (keysL T).Pairwise (· < ·)) : readTab (enc T.length ++ T.flatMap encEntry) = some T := by
  have hg := getP_enc T.length (by omega) (T.flatMap encEntry)
  have hc : cntX (enc T.length ++ T.flatMap encEntry) false 16 = (T.length, T.flatMap encEntry, false) := by
    rw [cntX, hg]
    simp only
    rw [if_neg (by simp; omega), drop_enc]
  rw [readTab, hc]
  simp only
  rw [tabP_enc T [] 0 hw ha hs]
  rfl
theorem tabP_ne {n : Nat} {s sE : Sx} {ahead : Int} {acc T : Tb} (h : tabP n s ahead acc = some (T, sE)) : ∃ R, T = acc ++ R ∧ (keysL R).Pairwise (· < ·) ∧ ∀ x ∈ R, ahead < x.1 ∧ 0 ≤ x.2.1 := by
  induction n generalizing s ahead acc with
  | zero =>
    rw [tabP] at h
    injection h with h
    injection h with h1 h2
    exact ⟨[], by simp [h1], .nil, by simp⟩
  | succ n ih =>
    rw [tabP] at h
    split at h
    · injection h with h
      injection h with h1 h2
      exact ⟨[], by simp [h1], .nil, by simp⟩
    · split at h
      · cases h
      · split at h
        · cases h
        · rename_i r _ hn
          obtain ⟨R, h1, h2, h3⟩ := ih h
          refine ⟨(iV s, iV (nX s), r) :: R, by rw [h1]; simp, ?_, ?_⟩
          · simp only [keysL, List.map_cons, List.pairwise_cons]
            refine ⟨fun k hk => ?_, h2⟩
            obtain ⟨x, hx, rfl⟩ := List.mem_map.1 hk
            exact (h3 x hx).1
          · intro x hx
            rcases List.mem_cons.1 hx with rfl | hx
            · exact ⟨by show ahead < iV s; omega, by show 0 ≤ iV (nX s); omega⟩
            · have := h3 x hx
              exact ⟨by omega, this.2⟩
end Go.Proofs.Ytkipijdbkkcioaa
