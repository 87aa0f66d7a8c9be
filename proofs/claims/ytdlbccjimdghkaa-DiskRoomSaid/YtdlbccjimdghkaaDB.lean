/- The disk: On, may, Start, New, Clone of bytes, Pending: walked once each. No condition on the disk but that it lies as Dk says. -/
import Derived.Test.YtdlbccjimdghkaaDA
namespace Go.Proofs.Ytdlbccjimdghkaa
open Go.RowKit
set_option linter.unusedVariables false
def mayErr (D : DS) : Int := if D.off then 9 else 0

set_option maxRecDepth 100000 in
theorem may_any (p m : Nat) (D : DS) (u : Int) (bv : Value) (w : World) (h : w.heap[p]? = some (.cells (dcs D u m bv) 57 (0, 0))) :
    Calls Try.prog 33 #[.pointer (some ⟨p, 0, none⟩)] w fun e w' => e = .returned (.int .i64 (mayErr D)) ∧ w = w' := by
  have H := hid h
  have c1 := blk_cell h
  unfold dcs at c1
  clear h
  obtain ⟨b, hb⟩ : ∃ b, D.off = b := ⟨_, rfl⟩
  have HB : Hid (mayErr D = if b then 9 else 0) := hid (by rw [mayErr, hb])
  rw [hb] at c1
  clear hb
  go_enter Try.func33, Try.ntmps33
  go_wp2_with fail
  refine (dmade_yes p m D u bv w H.out).mono ?_
  rintro e w1 ⟨rfl, rfl⟩
  cases b <;> (go_wp2_with fail; go_ret; exact ⟨by rw [HB.out]; rfl, rfl⟩)

set_option maxRecDepth 100000 in
theorem on_any (p m : Nat) (D : DS) (u : Int) (bv : Value) (w : World) (h : w.heap[p]? = some (.cells (dcs D u m bv) 57 (0, 0))) :
    Calls Try.prog 22 #[.pointer (some ⟨p, 0, none⟩)] w fun e w' => e = .returned (.bool (!D.off)) ∧ w = w' := by
  have H := hid h
  have c1 := blk_cell h
  unfold dcs at c1
  clear h
  obtain ⟨b, hb⟩ : ∃ b, D.off = b := ⟨_, rfl⟩
  rw [hb] at c1 ⊢
  clear hb
  go_enter Try.func22, Try.ntmps22
  go_wp2_with fail
  refine (dmade_yes p m D u bv w H.out).mono ?_
  rintro e w1 ⟨rfl, rfl⟩
  go_wp2_with fail
  go_ret
  exact ⟨rfl, rfl⟩

theorem Dk0.cellset {w w' : World} {p : Nat} {ro : Nat → Role} {D D' : DS} {m : Nat} {fp : Nm → Nat} {bv : Value} {BV : List (Nm × By × Value)} (h : Dk0 w p ro D m fp bv BV)
    (k : Kp (fun b => b ≠ p) w w') (hc : w'.heap[p]? = some (.cells (dcs D' (usedOf D.F D.B) m bv) 57 (0, 0))) (hF : D'.F = D.F) (hB : D'.B = D.B) (hb : D'.blocks = D.blocks) (hk : D'.keep ≤ 9223372036854775807) : Dk0 w' p ro D' m fp bv BV where
  cell := by rw [hF, hB]; exact hc
  map := by rw [hF]; exact h.map.kept k (fun e => by have := h.rm; rw [e, h.rp] at this; cases this)
  fl := by
    rw [hF, hB]
    exact h.fl.kept k (fun b hb e => by subst e; rw [h.rp] at hb; rcases hb with e | ⟨f, e⟩ <;> cases e)
  bf := by
    rw [hB]
    exact h.bf.kept k (fun b hb e => by subst e; rw [h.rp] at hb; rcases hb with e | e <;> cases e)
  rp := h.rp
  rm := h.rm
  lt := fun b hb => Nat.lt_of_lt_of_le (h.lt b hb) k.size
  names := by rw [hF, hB]; exact h.names
  bl := by rw [hb]; exact h.bl
  kw := hk
  us := by rw [hF, hB, hb]; exact h.us
theorem Nx.of {w w' : World} {p : Nat} {ro : Nat → Role} {D' : DS} {S : Nat → Prop} (h : Dk w' p ro D') (k : Kp S w w') (hs : ∀ b, ro b = .none → S b) : Nx w ro p D' w' := ⟨ro, h, fun _ _ h => h, k.mono fun b _ hb => hs b hb⟩

def DS.start (D : DS) : DS := { D with off := false, fails := 0 }
set_option maxRecDepth 100000 in
theorem start_any (p : Nat) (ro : Nat → Role) (D : DS) (w : World) (h : Dk w p ro D) :
    Calls Try.prog 19 #[.pointer (some ⟨p, 0, none⟩)] w fun e w' => e = .returned (.tuple #[]) ∧ Nx w ro p D.start w' := by
  obtain ⟨m, fp, bv, BV, h⟩ := h
  have H := hid h
  have c1 := blk_cell h.cell
  have b1 := hid h.cell
  have f1 := blk_free h.cell
  have hp : p < w.heap.size := blk_lt h.cell
  unfold dcs at c1
  clear h
  go_enter Try.func19, Try.ntmps19
  go_wp2_with fail
  refine (dmade_yes p m D _ bv w H.out.cell).mono ?_
  rintro e w1 ⟨rfl, rfl⟩
  go_wp2_with fail
  go_end0
  have b2 := blk_set (blk_set b1.out 4 (.bool false)) 6 (.int .i64 0)
  refine ⟨rfl, Nx.of ⟨m, fp, bv, BV, H.out.cellset (D' := D.start) (k := ?_) b2 rfl rfl rfl H.out.kw⟩ (S := fun b => b ≠ p) ?_ ?_⟩
  · exact ((Kp.refl _ _).setOut (by simp) _).setOut (by simp) _
  · exact ((Kp.refl _ _).setOut (by simp) _).setOut (by simp) _
  · intro b hb e
    rw [e, H.out.rp] at hb
    cases hb

theorem Nx_new {w : World} {p : Nat} : True := trivial

set_option maxRecDepth 100000 in
theorem clone8_any (A : Option Addr) (n c : Nat) (xs : List Value) (w : World) (h : Foot All (Sl A n c 1 xs) w) (hn : n ≤ 140737488355328) (h1 : ∀ u ∈ xs, u.oneCell' = true) :
    Calls Try.prog 42 #[.slice A n c] w fun e w' => (∃ v, e = .returned v ∧ w'.ownsRow w.heap.size 5 1 v n xs) ∧ Kp All w w' := by
  have H := hid h
  have H1 := hid h1
  clear h h1
  have hq := fun (w : World) (A : Option Addr) (n c : Nat) => Lib.run_eql_slice_nil (P := Try.prog) w 32 5 A n c 0 0 Try.underlying32
  have hbs := fun (w : World) => run_build0 (w := w) el8
  by_cases hA : A = none
  · subst hA
    have hn0 : n = 0 := by
      rcases Nat.eq_zero_or_pos n with h | h
      · exact h
      · obtain ⟨_, _, e, _⟩ := H.out.now.2.2 h; cases e
    subst hn0
    go_enter Try.func42, Try.ntmps42
    go_wp2
    go_ret
    have hx : xs = [] := List.eq_nil_of_length_eq_zero (by rw [H.out.now.1])
    subst hx
    exact ⟨⟨.slice none 0 0, rfl, World.ownsRow_nil _ _ _ _⟩, Kp.refl _ _⟩
  · obtain ⟨a, rfl⟩ := Option.ne_none_iff_exists'.1 hA
    go_enter Try.func42, Try.ntmps42
    go_wp2_with (at_builtin; refine wpList_app el8 (own_build0 (base := w.heap.size) (Nat.le_refl _)) ((H.out.step ((Kp.refl _ _).alloc _)).now) H1.out (by omega) (by simp) rfl _ _ rfl rfl rfl ?_; intro v' w1 hown' hg hob hnil)
    go_ret
    have hk : Kp All w w1 := ((Kp.refl All w).alloc (.cells #[] 5)).then (Kp.grown hg) (fun i hi _ => by simp [Value.ownBlock]; omega)
    rw [Nat.zero_add, List.nil_append] at hown'
    exact ⟨⟨v', rfl, hown'⟩, hk⟩

set_option maxRecDepth 100000 in
theorem dnew_any (n : Int) (h0 : 0 ≤ n) (h1 : n ≤ 16777216) (w : World) :
    Calls Try.prog 13 #[.int .i64 n] w fun e w' => (∃ p ro, e = .returned (.pointer (some ⟨p, 0, none⟩)) ∧ Dk w' p ro ⟨n, false, 0, 0, 0, [], []⟩ ∧ ∀ b, b < w.heap.size → ro b = .none) ∧ Kp All w w' := by
  have hmm := @run_makeMap Try.prog
  have d0 : decide (n < 0) = false := decide_eq_false (by omega)
  have d1 : decide (16777216 < n) = false := decide_eq_false (by omega)
  go_enter Try.func13, Try.ntmps13
  go_wp2_with fail
  go_ret
  refine ⟨⟨w.heap.size + 1, fun b => if b = w.heap.size + 1 then .disk else if b = w.heap.size then .map else .none, ?_, ⟨w.heap.size, fun _ => 0, .slice none 0 0, [], ?_⟩, fun b hb => ?_⟩, ?_⟩
  · simp
  · refine ⟨?_, ?_, ⟨by simp, by simp, by simp⟩, ⟨rfl, World.ownsRow_nil _ _ _ _, by simp [Value.ownBlock], by simp⟩, by simp, by simp, ?_, by simp, h1, by simp, by simpa [usedOf] using h0⟩
    · have := blk_new (w.alloc (.map #[] 0)) (.cells (dcs ⟨n, false, 0, 0, 0, [], []⟩ 0 w.heap.size (.slice none 0 0)) 57)
      rwa [World.size_alloc] at this
    · exact (KMap.new _ w).kept ((Kp.refl All _).alloc _) trivial
    · intro b hb
      simp only [World.size_alloc]
      split at hb
      · omega
      · split at hb
        · omega
        · exact absurd rfl hb
  · have h1 : b ≠ w.heap.size + 1 := by omega
    have h2 : b ≠ w.heap.size := by omega
    simp [h1, h2]
  · exact ((Kp.refl _ _).alloc _).alloc _
end Go.Proofs.Ytdlbccjimdghkaa
