/- The session table in bytes: Bytes, walked once. No condition on the table but that it lies as Tab says, that its numbers are ints, and that its replies are not great. -/
import Derived.Test.YtkipijdbkkcioaaCD
import Derived.Test.YtkipijdbkkcioaaSJ
import Derived.Laws.IdiomStrings
import Derived.Lib.BufferRead
namespace Go.Proofs.Ytkipijdbkkcioaa
open Go.RowKit
set_option linter.unusedVariables false
set_option linter.unusedSimpArgs false
theorem run_conv_row {w : World} {v : Value} {xs : By} (h : Rb v xs w) : (convert 54 9 v).run Try.prog w = .ok (.string ⟨xs.toArray⟩) w := by
  obtain ⟨A, c, rfl, h1, h2, h3⟩ := h
  cases xs with
  | nil =>
    cases A with
    | none => exact Lib.run_convert_nil_bytes w _ _ _ _ Try.underlying54 Try.underlying5 Try.underlying9
    | some a => exact run_convert_bytes_back w _ _ _ a c [] Try.underlying54 Try.underlying5 Try.underlying9 (fun j hj => absurd hj (by simp))
  | cons x xs =>
    obtain ⟨b, o, rfl, hr⟩ := h3 (by simp)
    refine run_convert_bytes_back w _ _ _ _ c (x :: xs) Try.underlying54 Try.underlying5 Try.underlying9 (fun j hj => ?_)
    rw [add_lit0]
    refine hr j _ ?_
    simp only [u8s, List.getElem?_map, List.getElem?_eq_getElem hj, Option.map_some]
def strOfB (b : By) : ByteArray := ⟨b.toArray⟩
def encEntry (x : Int × Int × RD) : By := encZg x.1 ++ encZg x.2.1 ++ encText (strOfB (encReply x.2.2))
def entryOf (T : List (Int × Int × RD)) (id : Int) : Int × Int × RD := (id, (aget T id).getD (0, .z))
def encIds (T : List (Int × Int × RD)) (ks : List Int) : By := ks.flatMap fun id => encEntry (entryOf T id)
def encTab (T : List (Int × Int × RD)) (ks : List Int) : By := enc T.length ++ encIds T ks
def EnOk (x : Int × Int × RD) : Prop := -9223372036854775808 ≤ x.1 ∧ x.1 ≤ 9223372036854775807 ∧ -9223372036854775808 ≤ x.2.1 ∧ x.2.1 ≤ 9223372036854775807 ∧ RDok x.2.2 ∧ (encReply x.2.2).length ≤ 100000000000
theorem encEntry_le {x : Int × Int × RD} (h : EnOk x) : (encEntry x).length ≤ 100000000027 := by
  have h1 := enc_len_le (zig x.1)
  have h2 := enc_len_le (zig x.2.1)
  have h3 := encText_len (strOfB (encReply x.2.2))
  have h4 := h.2.2.2.2.2
  have h5 : (strOfB (encReply x.2.2)).size = (encReply x.2.2).length := by simp [strOfB, ByteArray.size]
  simp only [encEntry, encZg, List.length_append]
  omega
theorem encIds_take {T : List (Int × Int × RD)} {ks : List Int} {k : Nat} {id : Int} (h : ks[k]? = some id) : encIds T (ks.take (k + 1)) = encIds T (ks.take k) ++ encEntry (entryOf T id) := by
  rw [List.take_add_one, h]
  simp [encIds]
theorem encIds_le {T : List (Int × Int × RD)} (hok : ∀ x ∈ T, EnOk x) (ks : List Int) (hk : ∀ id ∈ ks, (aget T id).isSome) : (encIds T ks).length ≤ ks.length * 100000000027 := by
  induction ks with
  | nil => simp [encIds]
  | cons id l ih =>
    have h1 := ih (fun i hi => hk i (List.mem_cons_of_mem _ hi))
    have h2 : EnOk (entryOf T id) := by
      obtain ⟨y, hy⟩ := Option.isSome_iff_exists.1 (hk id (List.mem_cons_self ..))
      rw [entryOf, hy]
      exact hok _ (mem_of_aget hy)
    have h3 := encEntry_le h2
    simp only [encIds, List.flatMap_cons, List.length_append, List.length_cons] at h1 ⊢
    omega
theorem aget_some_of_mem {T : List (Int × Int × RD)} {id : Int} (h : id ∈ T.map (·.1)) : (aget T id).isSome := by
  unfold aget
  rw [Option.isSome_map, List.find?_isSome]
  obtain ⟨x, hx, rfl⟩ := List.mem_map.1 h
  exact ⟨x, hx, by simp⟩
def BytesP (w : World) (T : List (Int × Int × RD)) (e : Ending) (w' : World) : Prop :=
  ∃ ks : List Int, ks.Perm (T.map (·.1)) ∧ ks.Pairwise (· ≤ ·) ∧ OutB w (encTab T ks) e w'
end Go.Proofs.Ytkipijdbkkcioaa
