/- slices.IndexFunc over pairs, by the closure of Range: walked once. No condition. -/
import Derived.Test.YtodledidabdkaaaDoorWG
namespace Go.Proofs.YtodledidabdkaaaDoor
open Go.RowKit V
set_option linter.unusedVariables false
abbrev sv1 (x : Slot) : Value := .string x.1
abbrev sv2 (x : Slot) : Value := .string x.2
/-- what the closure answers of each write -/
def DelP (p : Slot → Bool) (bx bz : Nat) (L : List Slot) (S : Nat → Prop) (w : World) : Prop := ∀ x ∈ L, ∀ w1, Kp S w w1 → Calls Tryd.prog 28 #[.agg #[sv1 x, sv2 x], .pointer (some ⟨bx, 0, none⟩), .pointer (some ⟨bz, 0, none⟩)] w1 fun e w2 => e = .returned (.bool (p x)) ∧ Kp All w1 w2
theorem enR1 : Enters Tryd.prog 28 := enters_of Tryd.func28 (by kernel_rfl) rfl
def IdxP (p : Slot → Bool) (L : List Slot) (w : World) (e : Ending) (w' : World) : Prop :=
  (∃ r : Int, e = .returned (.int .i64 r) ∧ ((r = -1 ∧ ∀ x ∈ L, p x = false) ∨ ∃ i x, r = (i : Nat) ∧ L[i]? = some x ∧ p x = true ∧ ∀ y ∈ L.take i, p y = false)) ∧ Kp All w w'
set_option maxRecDepth 100000 in
theorem idxp_any (p : Slot → Bool) (bx bz : Nat) (A : Option Addr) (n c : Nat) (L : List Slot) (hn : L.length = n) (hm : n ≤ 9223372036854775807) (S : Nat → Prop) (w : World) (hs : Foot All (Sl A n c 2 (scs L)) w) (hd : DelP p bx bz L S w) :
    Calls Tryd.prog 49 #[.slice A n c, .func (.func 28) #[] #[.pointer (some ⟨bx, 0, none⟩), .pointer (some ⟨bz, 0, none⟩)]] w (IdxP p L w) := by
  have HS := hid hs; have HD := hid hd; have HN := hid hn
  have e1 : ∀ args w, (callFunc 28 args).run Tryd.prog w = .ok (.enter 28 args) w := enR1
  clear hs hd hn
  go_enter Tryd.func49, Tryd.ntmps49
  go_wp2_with fail
  go_loopw [8] (fun i wr => ∃ k : Nat, k ≤ n ∧ i = .int .i64 k ∧ Hid (∀ y ∈ L.take k, p y = false) ∧ Hid (Kp All w wr)) (fun i _ => n - (ivl i).toNat)
  case atStart => exact ⟨0, Nat.zero_le _, rfl, by simp [Hid], Kp.refl _ _⟩
  case round =>
    obtain ⟨k, hk, rfl, hall, hkp⟩ := hrel
    by_cases hlt : k < n
    · have hb0 : decide ((k : Int) < (n : Int)) = true := decide_eq_true (by omega)
      have i0 : (0 : Int) ≤ (k : Int) := by omega
      have i1 : (k : Int) < (n : Int) := by omega
      obtain ⟨x, hx⟩ : ∃ x, L[k]? = some x := ⟨_, List.getElem?_eq_getElem (by rw [HN.out]; exact hlt)⟩
      obtain ⟨x1, x2⟩ := x
      obtain ⟨b, o, rfl, hr⟩ := (HS.out wr hkp.out).2.2 (by omega)
      obtain ⟨g1, g2⟩ := scs_get hx
      have c1 := hr _ _ g1
      have c2 := hr _ _ g2
      rw [← Nat.add_assoc] at c2
      obtain ⟨t, ht⟩ : ∃ t, p (x1, x2) = t := ⟨_, rfl⟩
      have HT := hid ht; have HX := hid hx
      have HC : Hid (Calls Tryd.prog 28 #[.agg #[.string x1, .string x2], .pointer (some ⟨bx, 0, none⟩), .pointer (some ⟨bz, 0, none⟩)] wr fun e w2 => e = .returned (.bool t) ∧ Kp All wr w2) := hid (by rw [← ht]; exact HD.out (x1, x2) (List.mem_of_getElem? hx) wr hkp.out.all)
      clear g1 g2 hr ht hx
      cases t
      · go_wp2_with (go_at_fn 28; refine HC.out.mono ?_; rintro e w2 ⟨rfl, hk2⟩; have HK2 := hid hk2; clear hk2)
        refine ⟨⟨k + 1, by omega, by go_num, ?_, hkp.out.trans HK2.out⟩, by simp [ivl]; omega⟩
        intro y hy
        rw [List.take_add_one, HX.out] at hy
        rcases List.mem_append.1 hy with hy | hy
        · exact hall.out y hy
        · simp at hy; subst hy; exact HT.out
      · go_wp2_with (go_at_fn 28; refine HC.out.mono ?_; rintro e w2 ⟨rfl, hk2⟩; have HK2 := hid hk2; clear hk2)
        go_ret
        exact ⟨⟨k, rfl, .inr ⟨k, _, rfl, HX.out, HT.out, hall.out⟩⟩, hkp.out.trans HK2.out⟩
    · have hb0 : decide ((k : Int) < (n : Int)) = false := decide_eq_false (by omega)
      go_wp2_with fail
      go_ret
      have : L.take k = L := List.take_of_length_le (by rw [HN.out]; omega)
      exact ⟨⟨-1, rfl, .inl ⟨rfl, by have h := hall.out; rw [this] at h; exact h⟩⟩, hkp.out⟩
end Go.Proofs.YtodledidabdkaaaDoor
