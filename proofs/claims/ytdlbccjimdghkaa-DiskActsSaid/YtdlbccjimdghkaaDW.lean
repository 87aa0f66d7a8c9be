/- slices.IndexFunc over the buffer's writes, by the closure of gone: walked once. No condition. -/
import Derived.Test.YtdlbccjimdghkaaDN
namespace Go.Proofs.Ytdlbccjimdghkaa
open Go.RowKit
set_option linter.unusedVariables false
abbrev E2 := Option Addr × Option Addr × Nat × Nat
abbrev v1 (x : E2) : Value := .pointer x.1
abbrev v2 (x : E2) : Value := .slice x.2.1 x.2.2.1 x.2.2.2
def e2 (L : List E2) : List Value := L.flatMap fun x => [v1 x, v2 x]
theorem e2_len (L : List E2) : (e2 L).length = L.length * 2 := by
  induction L with
  | nil => rfl
  | cons x l ih => simp only [e2, List.flatMap_cons, List.length_append, List.length_cons, List.length_nil] at ih ⊢; omega
theorem e2_append (L M : List E2) : e2 (L ++ M) = e2 L ++ e2 M := by simp [e2]
theorem e2_get : ∀ (L : List E2) (k : Nat) (x : E2), L[k]? = some x → (e2 L)[k * 2]? = some (v1 x) ∧ (e2 L)[k * 2 + 1]? = some (v2 x)
  | [], k, x, h => by simp at h
  | y :: l, 0, x, h => by
    simp at h
    subst h
    simp [e2]
  | y :: l, k + 1, x, h => by
    have := e2_get l k x (by simpa using h)
    simp only [e2, List.flatMap_cons] at this ⊢
    rw [show (k + 1) * 2 = k * 2 + 2 from by omega]
    exact this
/-- what the closure answers of each write -/
def Del (p : E2 → Bool) (bx : Nat) (L : List E2) (S : Nat → Prop) (w : World) : Prop := ∀ x ∈ L, ∀ w1, Kp S w w1 → Calls Try.prog 67 #[.agg #[v1 x, v2 x], .pointer (some ⟨bx, 0, none⟩)] w1 fun e w2 => e = .returned (.bool (p x)) ∧ Kp All w1 w2
theorem en67 : Enters Try.prog 67 := enters_of Try.func67 (by kernel_rfl) rfl
def Idx (p : E2 → Bool) (L : List E2) (w : World) (e : Ending) (w' : World) : Prop :=
  (∃ r : Int, e = .returned (.int .i64 r) ∧ ((r = -1 ∧ ∀ x ∈ L, p x = false) ∨ ∃ i x, r = (i : Nat) ∧ L[i]? = some x ∧ p x = true ∧ ∀ y ∈ L.take i, p y = false)) ∧ Kp All w w'
set_option maxRecDepth 100000 in
theorem idxfunc_any (p : E2 → Bool) (bx : Nat) (A : Option Addr) (n c : Nat) (L : List E2) (hn : L.length = n) (hm : n ≤ 9223372036854775807) (S : Nat → Prop) (w : World) (hs : Foot All (Sl A n c 2 (e2 L)) w) (hd : Del p bx L S w) :
    Calls Try.prog 78 #[.slice A n c, .func (.func 67) #[] #[.pointer (some ⟨bx, 0, none⟩)]] w (Idx p L w) := by
  have HS := hid hs; have HD := hid hd; have HN := hid hn
  have e1 : ∀ args w, (callFunc 67 args).run Try.prog w = .ok (.enter 67 args) w := en67
  clear hs hd hn
  go_enter Try.func78, Try.ntmps78
  go_wp2_with fail
  go_loopw [8] (fun i wr => ∃ k : Nat, k ≤ n ∧ i = .int .i64 k ∧ Hid (∀ y ∈ L.take k, p y = false) ∧ Hid (Kp All w wr)) (fun i _ => n - (intOf i).toNat)
  case atStart => exact ⟨0, Nat.zero_le _, rfl, by simp [Hid], Kp.refl _ _⟩
  case round =>
    obtain ⟨k, hk, rfl, hall, hkp⟩ := hrel
    by_cases hlt : k < n
    · have hb0 : decide ((k : Int) < (n : Int)) = true := decide_eq_true (by omega)
      have i0 : (0 : Int) ≤ (k : Int) := by omega
      have i1 : (k : Int) < (n : Int) := by omega
      obtain ⟨x, hx⟩ : ∃ x, L[k]? = some x := ⟨_, List.getElem?_eq_getElem (by rw [HN.out]; exact hlt)⟩
      obtain ⟨x1, x2, x3, x4⟩ := x
      obtain ⟨b, o, rfl, hr⟩ := (HS.out wr hkp.out).2.2 (by omega)
      obtain ⟨g1, g2⟩ := e2_get L k _ hx
      have c1 := hr _ _ g1
      have c2 := hr _ _ g2
      rw [← Nat.add_assoc] at c2
      obtain ⟨t, ht⟩ : ∃ t, p (x1, x2, x3, x4) = t := ⟨_, rfl⟩
      have HT := hid ht; have HX := hid hx
      have HC : Hid (Calls Try.prog 67 #[.agg #[.pointer x1, .slice x2 x3 x4], .pointer (some ⟨bx, 0, none⟩)] wr fun e w2 => e = .returned (.bool t) ∧ Kp All wr w2) := hid (by rw [← ht]; exact HD.out (x1, x2, x3, x4) (List.mem_of_getElem? hx) wr hkp.out.all)
      clear g1 g2 hr ht hx
      cases t
      · go_wp2_with (go_at_fn 67; refine HC.out.mono ?_; rintro e w2 ⟨rfl, hk2⟩; have HK2 := hid hk2; clear hk2)
        refine ⟨⟨k + 1, by omega, by go_num, ?_, hkp.out.trans HK2.out⟩, by simp [intOf]; omega⟩
        intro y hy
        rw [List.take_add_one, HX.out] at hy
        rcases List.mem_append.1 hy with hy | hy
        · exact hall.out y hy
        · simp at hy; subst hy; exact HT.out
      · go_wp2_with (go_at_fn 67; refine HC.out.mono ?_; rintro e w2 ⟨rfl, hk2⟩; have HK2 := hid hk2; clear hk2)
        go_ret
        exact ⟨⟨k, rfl, .inr ⟨k, _, rfl, HX.out, HT.out, hall.out⟩⟩, hkp.out.trans HK2.out⟩
    · have hb0 : decide ((k : Int) < (n : Int)) = false := decide_eq_false (by omega)
      go_wp2_with fail
      go_ret
      have : L.take k = L := List.take_of_length_le (by rw [HN.out]; omega)
      exact ⟨⟨-1, rfl, .inl ⟨rfl, by have h := hall.out; rw [this] at h; exact h⟩⟩, hkp.out⟩
end Go.Proofs.Ytdlbccjimdghkaa
