/- The disk: does, Append, Sync: walked once each. No condition on the disk but that it lies as Dk says. -/
import Derived.Test.YtdlbccjimdghkaaDF
import Derived.Shelf.Abstract
namespace Go.Proofs.Ytdlbccjimdghkaa
open Go.RowKit
set_option linter.unusedVariables false

def Does (w : World) (ro : Nat → Role) (p : Nat) (D : DS) (R : Ending → World → Prop) (e : Ending) (w' : World) : Prop :=
  (D.fit = false → e = .returned (.int .i64 9) ∧ Nx w ro p D.begun w') ∧ (D.fit = true → R e w')

set_option maxRecDepth 100000 in
theorem does_any (p : Nat) (ro : Nat → Role) (D : DS) (ho0 : 0 ≤ D.ops) (ho : D.ops ≤ 4611686018427387904) (hf : D.fails ≤ 9223372036854775807) (w : World) (m : Nat) (fp : Nm → Nat) (bv : Value) (BV : List (Nm × By × Value)) (h : Dk0 w p ro D m fp bv BV)
    (k : Nat) (caps : Array Value) (hE : Enters Try.prog k) (R : Ending → World → Prop) (hR : ∀ e w', R e w' → ∃ n, e = .returned (.int .i64 n))
    (hc : D.fit = true → ∀ w1, Dk0 w1 p ro D.begun m fp bv BV → Kp (fun b => b ≠ p) w w1 → Calls Try.prog k caps w1 R) :
    Calls Try.prog 34 #[.pointer (some ⟨p, 0, none⟩), .func (.func k) #[] caps] w (Does w ro p D R) := by
  have H := hid h
  have HC := hid hc
  have e1 : ∀ args w, (callFunc k args).run Try.prog w = .ok (.enter k args) w := hE
  have HR := hid hR
  obtain ⟨b, hb⟩ : ∃ b, D.fit = b := ⟨_, rfl⟩
  have HB := hid hb
  clear h hc hR
  cases b
  · go_enter Try.func34, Try.ntmps34
    go_wp2_with fail
    refine (begin_any p ro D ho0 ho hf w m fp bv BV H.out).mono ?_
    rintro e w1 ⟨rfl, h1, h1'⟩
    have H1 := hid h1; have H1' := hid h1'
    clear h1 h1'
    rw [hb]
    clear hb
    go_wp2_with fail
    go_ret
    exact ⟨fun _ => ⟨rfl, H1'.out HB.out⟩, fun h => by rw [HB.out] at h; cases h⟩
  · go_enter Try.func34, Try.ntmps34
    go_wp2_with fail
    refine (begin_any p ro D ho0 ho hf w m fp bv BV H.out).mono ?_
    rintro e w1 ⟨rfl, h1, h1'⟩
    have H1 := hid h1; have H1' := hid h1'
    clear h1 h1'
    rw [hb]
    clear hb
    go_wp2_with (go_at_fn k; refine (HC.out HB.out w1 (H1.out HB.out).1 (H1.out HB.out).2).mono ?_; intro e w2 hr; obtain ⟨n, rfl⟩ := HR.out _ _ hr; have HRR := hid hr; clear hr)
    go_ret
    exact ⟨(fun h => by rw [HB.out] at h; cases h), fun _ => HRR.out⟩
end Go.Proofs.Ytdlbccjimdghkaa
