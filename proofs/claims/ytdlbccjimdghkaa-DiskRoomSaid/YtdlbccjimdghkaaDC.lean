/- The disk: Pending, settle, Crash, begin: walked once each. No condition on the disk but that it lies as Dk says. -/
import Derived.Test.YtdlbccjimdghkaaDB
namespace Go.Proofs.Ytdlbccjimdghkaa
open Go.RowKit
set_option linter.unusedVariables false
def moreSum (F B : List (Nm × By)) : Nat := (F.map fun x => moreOf B x.1).sum
theorem moreSum_cons (F : List (Nm × By)) (x : Nm × By) (l : List (Nm × By)) : moreSum F l ≤ moreSum F (x :: l) ∧ (x.1 ∈ F.map (·.1) → moreSum F l + x.2.length ≤ moreSum F (x :: l)) := by
  induction F with
  | nil => simp [moreSum]
  | cons y r ih =>
    simp only [moreSum, List.map_cons, List.sum_cons, moreOf, List.mem_cons] at ih ⊢
    constructor
    · split <;> omega
    · rintro (e | e)
      · rw [if_pos e]; omega
      · have := ih.2 e
        split <;> omega
theorem pend_le_moreSum {F B : List (Nm × By)} (h : ∀ x ∈ B, x.1 ∈ F.map (·.1)) : pend B ≤ moreSum F B := by
  induction B with
  | nil => simp [pend]
  | cons x l ih =>
    have h1 := ih fun y hy => h y (List.mem_cons_of_mem _ hy)
    have h2 := (moreSum_cons F x l).2 (h x (List.mem_cons_self ..))
    simp only [pend, List.map_cons, List.sum_cons] at h1 ⊢
    omega
theorem moreSum_le_used (F B : List (Nm × By)) : moreSum F B ≤ 64 * usedOf F B := by
  induction F with
  | nil => simp [moreSum]
  | cons y r ih =>
    simp only [moreSum, usedOf, List.map_cons, List.sum_cons, needs] at ih ⊢
    omega
theorem Dk0.pend_le {w : World} {p : Nat} {ro : Nat → Role} {D : DS} {m : Nat} {fp : Nm → Nat} {bv : Value} {BV : List (Nm × By × Value)} (h : Dk0 w p ro D m fp bv BV) : pend D.B ≤ 1073741824 := by
  have h1 := pend_le_moreSum h.names
  have h2 := moreSum_le_used D.F D.B
  have h3 := h.bl
  have h4 := h.us
  omega
theorem Dk0.size_le {w : World} {p : Nat} {ro : Nat → Role} {D : DS} {m : Nat} {fp : Nm → Nat} {bv : Value} {BV : List (Nm × By × Value)} (h : Dk0 w p ro D m fp bv BV) {x : Nm × By} (hx : x ∈ D.F) : x.2.length + moreOf D.B x.1 ≤ 1073741824 := by
  have h1 := le_usedOf (B := D.B) hx
  have h3 := h.bl
  have h4 := h.us
  unfold needs at h1
  omega
theorem wcs_get (fp : Nm → Nat) : ∀ (BV : List (Nm × By × Value)) (k : Nat) (x : Nm × By × Value), BV[k]? = some x → (wcs fp BV)[k * 2]? = some (.pointer (some ⟨fp x.1, 0, none⟩)) ∧ (wcs fp BV)[k * 2 + 1]? = some x.2.2
  | [], k, x, h => by simp at h
  | y :: l, 0, x, h => by
    simp at h
    subst h
    simp [wcs]
  | y :: l, k + 1, x, h => by
    have := wcs_get fp l k x (by simpa using h)
    simp only [wcs, List.flatMap_cons] at this ⊢
    rw [show (k + 1) * 2 = k * 2 + 2 from by omega]
    exact this
theorem own_at {w : World} {base e sz n : Nat} {v : Value} {xs : List Value} (h : w.ownsRow base e sz v n xs) : (v = .slice none 0 0 ∧ n = 0 ∧ xs = []) ∨ ∃ g cap cur, v = .slice (some ⟨g, 0, none⟩) n cap ∧ w.heap[g]? = some (.cells cur e (0, 0)) ∧ base ≤ g ∧ ∀ j u, xs[j]? = some u → w.cell? ⟨g, j, none⟩ = some u := by
  rcases h.2 with ⟨rfl, rfl⟩ | ⟨g, cap, cur, rfl, hb, hg, hn, hc, hs, ht⟩
  · exact .inl ⟨rfl, rfl, List.eq_nil_of_length_eq_zero (by rw [h.1, Nat.zero_mul])⟩
  · refine .inr ⟨g, cap, cur, rfl, hg, hb, fun j u hj => ?_⟩
    rw [blk_cell hg, ← Array.getElem?_toList]
    rw [← ht, List.getElem?_take] at hj
    split at hj
    · exact hj
    · cases hj
theorem own_shape {w : World} {base e sz n : Nat} {v : Value} {xs : List Value} (h : w.ownsRow base e sz v n xs) : ∃ A c, v = .slice A n c := by
  rcases own_at h with ⟨rfl, rfl, _⟩ | ⟨g, cap, _, rfl, _⟩
  · exact ⟨_, _, rfl⟩
  · exact ⟨_, _, rfl⟩
theorem own_le {w : World} {base e sz n : Nat} {v : Value} {xs : List Value} (h : w.ownsRow base e sz v n xs) : n ≤ 9223372036854775807 := by
  rcases h.2 with ⟨rfl, rfl⟩ | ⟨g, cap, cur, rfl, hb, hg, hn, hc, hs, ht⟩
  · exact Nat.zero_le _
  · exact Nat.le_trans hn hc
/-- a write of the buffer, read through its cells -/
theorem Bf.at {w : World} {ro : Nat → Role} {fp : Nm → Nat} {B : List (Nm × By)} {bv : Value} {BV : List (Nm × By × Value)} (h : Bf w ro fp B bv BV) {k : Nat} {x : Nm × By} (hk : B[k]? = some x) :
    ∃ g cap A c, bv = .slice (some ⟨g, 0, none⟩) B.length cap ∧ BV[k]? = some (x.1, x.2, .slice A x.2.length c) ∧ w.cell? ⟨g, k * 2, none⟩ = some (.pointer (some ⟨fp x.1, 0, none⟩)) ∧ w.cell? ⟨g, k * 2 + 1, none⟩ = some (.slice A x.2.length c) ∧ w.ownsRow 0 5 1 (.slice A x.2.length c) x.2.length (u8s x.2) ∧ (∀ b, (Value.slice A x.2.length c).ownBlock = some b → ro b = .data) ∧ ro g = .buf := by
  have hk' := hk
  rw [h.eq, List.getElem?_map] at hk'
  cases hy : BV[k]? with
  | none => rw [hy] at hk'; cases hk'
  | some y =>
    rw [hy] at hk'
    simp at hk'
    subst hk'
    obtain ⟨d1, d2⟩ := h.data y (List.mem_of_getElem? hy)
    obtain ⟨A, c, e⟩ := own_shape d1
    rcases own_at h.row with ⟨e1, e2, e3⟩ | ⟨g, cap, cur, e1, _, _, e2⟩
    · have := (List.getElem?_eq_some_iff.1 hk).1
      omega
    · obtain ⟨c1, c2⟩ := wcs_get fp BV k y hy
      refine ⟨g, cap, A, c, e1, ?_, e2 _ _ c1, ?_, ?_, ?_, h.role g (by rw [e1]; rfl)⟩
      · rw [← e]
      · rw [e2 _ _ c2, e]
      · rw [← e]; exact d1
      · rw [← e]; exact d2
theorem pend_take {B : List (Nm × By)} {k : Nat} {x : Nm × By} (h : B[k]? = some x) : pend (B.take (k + 1)) = pend (B.take k) + x.2.length := by
  rw [List.take_add_one, h]
  simp [pend]
theorem pend_take_le (B : List (Nm × By)) (k : Nat) : pend (B.take k) ≤ pend B := by
  have h := congrArg pend (List.take_append_drop k B)
  simp only [pend, List.map_append, List.sum_append] at h ⊢
  omega

set_option maxRecDepth 100000 in
theorem pend_any (p : Nat) (ro : Nat → Role) (D : DS) (w : World) (h : Dk w p ro D) :
    Calls Try.prog 16 #[.pointer (some ⟨p, 0, none⟩)] w fun e w' => e = .returned (.int .i64 (if D.off then 0 else pend D.B : Nat)) ∧ Kp All w w' := by
  obtain ⟨m, fp, bv, BV, h⟩ := h
  have H := hid h
  have c1 := blk_cell h.cell
  obtain ⟨bo, hbo⟩ : ∃ b, D.off = b := ⟨_, rfl⟩
  obtain ⟨n, hn⟩ : ∃ n, D.B.length = n := ⟨_, rfl⟩
  obtain ⟨A, c, hbv⟩ := own_shape h.bf.row
  rw [hn] at hbv
  have hnm := own_le h.bf.row
  rw [hn] at hnm
  have HL := hid hn
  have HB := hid hbo
  have hpl := h.pend_le
  unfold dcs at c1
  rw [hbo] at c1 ⊢
  subst hbv
  clear h hbo hn
  cases bo
  · go_enter Try.func16, Try.ntmps16
    go_wp2_with fail
    refine (on_any p m D _ _ w H.out.cell).mono ?_
    rintro e w1 ⟨rfl, rfl⟩
    rw [HB.out]
    go_wp2_with fail
    go_loopw [3, 13] (fun x i wr => ∃ k : Nat, k ≤ n ∧ i = .int .i64 k ∧ x = .int .i64 (pend (D.B.take k)) ∧ Hid (Kp All w wr)) (fun _ i _ => n - (intOf i).toNat)
    case atStart => exact ⟨0, Nat.zero_le _, rfl, rfl, Kp.refl _ _⟩
    case round =>
      obtain ⟨k, hk, rfl, rfl, hkp⟩ := hrel
      have hpk := pend_take_le D.B k
      by_cases hlt : k < n
      · have hb0 : decide ((k : Int) < (n : Int)) = true := decide_eq_true (by omega)
        obtain ⟨x, hx⟩ : ∃ x, D.B[k]? = some x := ⟨_, List.getElem?_eq_getElem (by rw [HL.out]; exact hlt)⟩
        have hps := pend_take hx
        have hpk1 := pend_take_le D.B (k + 1)
        obtain ⟨g, cap, A', c', e1, _, p1, p2, _⟩ := (H.out.kept hkp.out (fun _ _ => trivial)).bf.at hx
        rw [HL.out] at e1
        injection e1 with eA _ ec
        subst eA ec
        have i0 : (0 : Int) ≤ (k : Int) := by omega
        have i1 : (k : Int) < (n : Int) := by omega
        obtain ⟨q, hq⟩ : ∃ q, pend (D.B.take k) = q := ⟨_, rfl⟩
        obtain ⟨l, hl⟩ : ∃ l, x.2.length = l := ⟨_, rfl⟩
        rw [hq] at hps hpk ⊢
        rw [hl] at hps p2
        have HP := hid hps
        rw [hps] at hpk1
        clear hps hx hl hq
        go_wp2_with fail
        exact ⟨⟨k + 1, by omega, by go_num, by rw [HP.out]; go_num, hkp.out.alloc _⟩, by simp [intOf]; omega⟩
      · have hb0 : decide ((k : Int) < (n : Int)) = false := decide_eq_false (by omega)
        go_wp2_with fail
        go_ret
        have : k = n := by omega
        subst this
        rw [List.take_of_length_le (by rw [HL.out]; exact Nat.le_refl _)]
        exact ⟨rfl, hkp.out⟩
  · go_enter Try.func16, Try.ntmps16
    go_wp2_with fail
    refine (on_any p m D _ _ w H.out.cell).mono ?_
    rintro e w1 ⟨rfl, rfl⟩
    rw [HB.out]
    go_wp2_with fail
    go_ret
    exact ⟨by simp, Kp.refl _ _⟩
end Go.Proofs.Ytdlbccjimdghkaa
