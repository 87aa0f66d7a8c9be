/- The document's Same of two alike replies answers true; weight answers some number. -/
import Derived.Test.YtkipijdbkkcioaaSC
namespace Go.Proofs.Ytkipijdbkkcioaa
open Go.RowKit

theorem pcs_at {ps : List (ByteArray × ByteArray)} {k : Nat} {p : ByteArray × ByteArray} (h : ps[k]? = some p) : (pcs ps)[k * 2]? = some (.string p.1) ∧ (pcs ps)[k * 2 + 1]? = some (.string p.2) := by
  induction ps generalizing k with
  | nil => simp at h
  | cons q ps ih =>
    cases k with
    | zero => simp at h; subst h; exact ⟨rfl, rfl⟩
    | succ k =>
      have := ih (k := k) (by simpa using h)
      rw [show (k + 1) * 2 = k * 2 + 2 from by omega]
      exact this
theorem pcs_len (ps : List (ByteArray × ByteArray)) : (pcs ps).length = ps.length * 2 := by
  induction ps with
  | nil => rfl
  | cons q ps ih => simp [pcs] at ih ⊢; omega

/-- The cells of pair k. -/
theorem Ps.at {A : Option Addr} {c : Nat} {ps : List (ByteArray × ByteArray)} {w : World} (h : Ps A c ps w) {k : Nat} (hk : k < ps.length) :
    ∃ b o, A = some ⟨b, o, none⟩ ∧ w.cell? ⟨b, o + k * 2, none⟩ = some (.string (ps.getD k default).1) ∧ w.cell? ⟨b, o + k * 2 + 1, none⟩ = some (.string (ps.getD k default).2) := by
  obtain ⟨b, o, e, hr⟩ := h.2.2 (by omega)
  have hp : ps[k]? = some (ps.getD k default) := by simp [List.getD, List.getElem?_eq_getElem hk]
  obtain ⟨h1, h2⟩ := pcs_at hp
  exact ⟨b, o, e, hr _ _ h1, by rw [Nat.add_assoc]; exact hr _ _ h2⟩

theorem eqA67 (d : Nat) (w : World) (x0 y0 : ByteArray) (x1 y1 : ByteArray) :
    (Op.equalIn (d + 2) 67 (.agg #[.string x0, .string x1]) (.agg #[.string y0, .string y1])).run Try.prog w = .ok (x0.toList == y0.toList && (x1.toList == y1.toList && true)) w := by
  refine eq_of_fields Try.underlying67 (by kernel_rfl) ?_
  refine eqf_cons (by rfl) (by go_simp; rfl) (by go_simp; rfl) (by go_simp) ?_
  exact eqf_cons (by rfl) (by go_simp; rfl) (by go_simp; rfl) (by go_simp) eqf_nil
theorem neq67 (a b : ByteArray) (w : World) : (binOp .neq 67 (.agg #[.string a, .string b]) (.agg #[.string a, .string b])).run Try.prog w = .ok (.bool false) w := by
  rw [run_neq_struct, eqA67 9998]
  simp

set_option maxRecDepth 100000 in
theorem same07_eq (A A' : Option Addr) (c c' : Nat) (ps : List (ByteArray × ByteArray)) (w : World) (h : Foot All (Ps A c ps) w) (h' : Foot All (Ps A' c' ps) w) (hn : ps.length ≤ 9223372036854775806) :
    Calls Try.prog 29 #[.slice A ps.length c, .slice A' ps.length c'] w fun e w' => e = .returned (.bool true) ∧ Kp All w w' := by
  have H := hid h
  have H' := hid h'
  clear h h'
  obtain ⟨n, hl⟩ : ∃ n, ps.length = n := ⟨_, rfl⟩
  have HL := hid hl
  rw [hl] at hn ⊢
  clear hl
  go_enter Try.func29, Try.ntmps29
  go_wp2
  go_loopw [13] (fun i wr => ∃ k : Nat, k ≤ n ∧ i = .int .i64 k ∧ Hid (Kp All w wr)) (fun i _ => n - (intOf i).toNat)
  case atStart => exact ⟨0, Nat.zero_le _, rfl, Kp.refl _ _⟩
  case round =>
    obtain ⟨k, hk, rfl, hkp⟩ := hrel
    by_cases hlt : k < n
    · have hb0 : decide ((k : Int) < (n : Int)) = true := decide_eq_true (by omega)
      obtain ⟨b, o, eA, p1, p2⟩ := (H.out.step hkp.out).now.at (k := k) (by rw [HL.out]; exact hlt)
      obtain ⟨b', o', eA', q1, q2⟩ := (H'.out.step hkp.out).now.at (k := k) (by rw [HL.out]; exact hlt)
      subst eA eA'
      have hne := neq67 (ps.getD k default).1 (ps.getD k default).2
      have i0 : (0 : Int) ≤ (k : Int) := by omega
      have i1 : (k : Int) < (n : Int) := by omega
      go_wp2_with fail
      go_quiet (fail)
      go_wp2_with fail
      exact ⟨⟨k + 1, by omega, by go_num, hkp.out.drewN _⟩, by simp [intOf]; omega⟩
    · have hb0 : decide ((k : Int) < (n : Int)) = false := decide_eq_false (by omega)
      go_wp2_with fail
      go_ret
      exact ⟨rfl, hkp.out⟩

set_option maxRecDepth 100000 in
theorem same09_eq (r : RD) (A A' : Option Addr) (c c' : Nat) (w : World) (h : Foot All (Ps A c r.pairs) w) (h' : Foot All (Ps A' c' r.pairs) w) (hn : small r) :
    Calls Try.prog 15 #[RV r A c, RV r A' c'] w fun e w' => e = .returned (.bool true) ∧ Kp All w w' := by
  have H := hid h
  have H' := hid h'
  have hn' : r.pairs.length ≤ 9223372036854775806 := by unfold small at hn; omega
  clear h h'
  go_enter Try.func15, Try.ntmps15
  go_wp2_with fail
  refine (same07_eq A A' c c' r.pairs _ (H.out.step (by exact (Kp.al _ _).alloc _)) (H'.out.step (by exact (Kp.al _ _).alloc _)) hn').mono ?_
  rintro e w1 ⟨rfl, hk⟩
  have HK := hid hk
  clear hk
  go_wp2_with fail
  go_ret
  exact ⟨rfl, ((Kp.al _ _).alloc _).trans HK.out⟩

/-- Some number. -/
def Some64 (w : World) (e : Ending) (w' : World) : Prop := ∃ n, e = .returned (.int .i64 n) ∧ Kp All w w'

set_option maxRecDepth 100000 in
theorem weight_any (r : RD) (A : Option Addr) (c : Nat) (w : World) (h : Foot All (Ps A c r.pairs) w) (hs : small r) (hv : r.val.size ≤ 9223372036854775807) :
    Calls Try.prog 8 #[RV r A c] w (Some64 w) := by
  have H := hid h
  clear h
  obtain ⟨n, hl⟩ : ∃ n, r.pairs.length = n := ⟨_, rfl⟩
  have HL := hid hl
  have hn : n ≤ 9223372036854775806 := by unfold small at hs; omega
  unfold RV
  rw [hl]
  clear hl hs
  go_enter Try.func8, Try.ntmps8
  go_wp2_with fail
  go_loopw [3, 14] (fun x i wr => ∃ (k : Nat) (y : Int), k ≤ n ∧ i = .int .i64 k ∧ x = .int .i64 y ∧ Hid (Kp All w wr)) (fun _ i _ => n - (intOf i).toNat)
  case atStart => exact ⟨0, _, Nat.zero_le _, rfl, rfl, Kp.al _ _⟩
  case round =>
    obtain ⟨k, y, hk, rfl, rfl, hkp⟩ := hrel
    by_cases hlt : k < n
    · have hb0 : decide ((k : Int) < (n : Int)) = true := decide_eq_true (by omega)
      obtain ⟨b, o, eA, p1, p2⟩ := (H.out.step hkp.out).now.at (k := k) (by rw [HL.out]; exact hlt)
      subst eA
      have hb1 := World.block_lt_of_cell? _ _ p1
      have i0 : (0 : Int) ≤ (k : Int) := by omega
      have i1 : (k : Int) < (n : Int) := by omega
      go_wp2_with fail
      exact ⟨⟨k + 1, _, by omega, by go_num, rfl, hkp.out.alloc _⟩, by simp [intOf]; omega⟩
    · have hb0 : decide ((k : Int) < (n : Int)) = false := decide_eq_false (by omega)
      go_wp2_with fail
      go_ret
      exact ⟨y, rfl, hkp.out⟩
end Go.Proofs.Ytkipijdbkkcioaa
