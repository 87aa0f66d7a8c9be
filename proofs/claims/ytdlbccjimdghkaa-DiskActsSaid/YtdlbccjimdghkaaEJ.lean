/- The disk: a file has another name: what it leaves, in plain Lean; Rename, walked once. No condition on the disk but that it lies as Dk says. -/
import Derived.Test.YtdlbccjimdghkaaEC
namespace Go.Proofs.Ytdlbccjimdghkaa
open Go.RowKit
set_option linter.unusedVariables false
set_option linter.unusedSimpArgs false
theorem bs_ne {s t : Nm} (h : s ≠ t) : ¬ s.toList = t.toList := fun e => h (by
  rw [ByteArray.toList_eq, ByteArray.toList_eq] at e
  cases s; cases t
  simp only [Array.toList_inj] at e
  subst e; rfl)
theorem adel_used {F B : List (Nm × By)} {n : Nm} {s : By} (hn : (F.map (·.1)).Nodup) (h : (n, s) ∈ F) : usedOf (adel F n) B + needs (s.length + moreOf B n) = usedOf F B := by
  have h1 := gone_used (B := B) hn h
  have h2 : usedOf (adel F n) (adel B n) = usedOf (adel F n) B := by
    unfold usedOf
    congr 1
    apply List.map_congr_left
    intro x hx
    rw [moreOf_adel (by simpa using (List.mem_filter.1 hx).2)]
  rw [h2] at h1
  exact h1
def renB (B : List (Nm × By)) (a b : Nm) : List (Nm × By) := B.map fun x => if x.1 = a then (b, x.2) else x
def DS.ren (D : DS) (a b : Nm) (s : By) : DS := { D with F := adel D.F a ++ [(b, s)], B := renB D.B a b }
theorem moreOf_ren {B : List (Nm × By)} {a b k : Nm} (hab : a ≠ b) (hb : ∀ x ∈ B, x.1 ≠ b) : moreOf (renB B a b) k = if k = b then moreOf B a else if k = a then 0 else moreOf B k := by
  induction B with
  | nil => simp [renB, moreOf]
  | cons x l ih =>
    have ih := ih fun y hy => hb y (List.mem_cons_of_mem _ hy)
    have hx := hb x (List.mem_cons_self ..)
    unfold renB at ih ⊢
    rw [List.map_cons, moreOf, ih]
    by_cases e1 : x.1 = a
    · rw [if_pos e1]
      by_cases e2 : k = b
      · rw [if_pos e2.symm, if_pos e2, if_pos e2, moreOf, if_pos e1]
      · rw [if_neg (fun e => e2 e.symm), if_neg e2, if_neg e2]
        by_cases e3 : k = a
        · rw [if_pos e3, if_pos e3]
        · rw [if_neg e3, if_neg e3, moreOf, if_neg (fun e => e3 (by rw [← e, e1]))]
    · rw [if_neg e1]
      by_cases e2 : k = b
      · rw [if_neg (fun e => hx (by rw [e, e2])), if_pos e2, if_pos e2, moreOf, if_neg e1]
      · rw [if_neg e2, if_neg e2]
        by_cases e3 : k = a
        · rw [if_pos e3, if_pos e3, if_neg (fun e => e1 (by rw [e, e3]))]
        · rw [if_neg e3, if_neg e3, moreOf]
theorem ren_used {F B : List (Nm × By)} {a b : Nm} {s : By} (hn : (F.map (·.1)).Nodup) (h : (a, s) ∈ F) (hab : a ≠ b) (hb : b ∉ F.map (·.1)) (hB : ∀ x ∈ B, x.1 ≠ b) : usedOf (adel F a ++ [(b, s)]) (renB B a b) = usedOf F B := by
  rw [← adel_used (B := B) hn h]
  have h1 : usedOf (adel F a) (renB B a b) = usedOf (adel F a) B := by
    unfold usedOf
    congr 1
    apply List.map_congr_left
    intro x hx
    have h2 : x.1 ≠ a := by simpa using (List.mem_filter.1 hx).2
    have h3 : x.1 ≠ b := fun e => hb (by rw [← e]; exact List.mem_map.2 ⟨x, (List.mem_filter.1 hx).1, rfl⟩)
    rw [moreOf_ren hab hB, if_neg h3, if_neg h2]
  have h4 : usedOf (adel F a ++ [(b, s)]) (renB B a b) = usedOf (adel F a) (renB B a b) + needs (s.length + moreOf (renB B a b) b) := by
    simp only [usedOf, List.map_append, List.map_cons, List.map_nil, List.sum_append, List.sum_cons, List.sum_nil, Nat.add_zero]
  rw [h4, h1, moreOf_ren hab hB, if_pos rfl]

theorem Dk0.renamed {w wF : World} {p : Nat} {ro : Nat → Role} {D : DS} {m : Nat} {fp : Nm → Nat} {bv : Value} {BV : List (Nm × By × Value)} (h : Dk0 w p ro D m fp bv BV) {a b : Nm} {s : By} (hs : (a, s) ∈ D.F) (hab : a ≠ b) (hb : aget D.F b = none)
    (hmap : SMap wF m (aset (adel (D.F.map fun x => (x.1, Value.pointer (some ⟨fp x.1, 0, none⟩))) a) b (.pointer (some ⟨fp a, 0, none⟩))))
    (kp : Kp (fun z => z ≠ m) w wF) : Nx w ro p (D.ren a b s) wF := by
  have hbk := aget_none hb
  have hnd : (D.F.map (·.1)).Nodup := by
    have := h.map.nodup strKey
    simpa [List.map_map, Function.comp_def] using this
  have hB : ∀ x ∈ D.B, x.1 ≠ b := fun x hx e => hbk (by rw [← e]; exact h.names x hx)
  have hne : ∀ x ∈ D.F, x.1 ≠ b := fun x hx e => hbk (by rw [← e]; exact List.mem_map.2 ⟨x, hx, rfl⟩)
  have hkeep : ∀ z, ro z ≠ .none → ro z ≠ .map → z ≠ m := fun z _ h3 e => h3 (e ▸ h.rm)
  have hBV : ∀ x ∈ BV, x.1 ≠ b := fun x hx => hB (x.1, x.2.1) (by rw [h.bf.eq]; exact List.mem_map.2 ⟨x, hx, rfl⟩)
  have hu := ren_used (B := D.B) hnd hs hab hbk hB
  refine ⟨ro, ⟨m, fun k => if k = b then fp a else fp k, bv, BV.map fun x => if x.1 = a then (b, x.2) else x, ?_, ?_, ⟨?_, ?_, ?_⟩, ⟨?_, ?_, ?_, ?_, ?_⟩, h.rp, h.rm, fun z hz => Nat.lt_of_lt_of_le (h.lt z hz) kp.size, ?_, h.bl, h.kw, ?_⟩, fun _ _ h => h, kp.mono fun z _ hz e => by rw [e, h.rm] at hz; cases hz⟩
  · rw [kp.heap h.cell (hkeep _ (by rw [h.rp]; decide) (by rw [h.rp]; decide))]
    show some (Obj.cells (dcs D _ m bv) _ _) = some (Obj.cells (dcs (D.ren a b s) (usedOf (adel D.F a ++ [(b, s)]) (renB D.B a b) : Nat) m bv) _ _)
    rw [hu]
    rfl
  · have e : (D.ren a b s).F.map (fun x => (x.1, Value.pointer (some ⟨if x.1 = b then fp a else fp x.1, 0, none⟩))) = aset (adel (D.F.map fun x => (x.1, Value.pointer (some ⟨fp x.1, 0, none⟩))) a) b (.pointer (some ⟨fp a, 0, none⟩)) := by
      show (adel D.F a ++ [(b, s)]).map _ = _
      have h0 : aget (adel (D.F.map fun x => (x.1, Value.pointer (some ⟨fp x.1, 0, none⟩))) a) b = none := by
        rw [aget_adel_other _ _ _ (Ne.symm hab), aget_keys D.F (fun x => Value.pointer (some ⟨fp x, 0, none⟩)), hb]
        rfl
      unfold aset
      rw [h0]
      simp only [Option.isSome_none, Bool.false_eq_true, if_false, List.map_append, List.map_cons, List.map_nil, if_true]
      congr 1
      unfold adel
      rw [List.filter_map]
      apply List.map_congr_left
      intro x hx
      rw [if_neg (hne x (List.mem_filter.1 hx).1)]
    rw [e]
    exact hmap
  · intro x hx
    rcases List.mem_append.1 hx with hx | hx
    · obtain ⟨hx1, hx2⟩ := List.mem_filter.1 hx
      obtain ⟨v, h1, h2, h3⟩ := h.fl.lie x hx1
      have hr := h.fl.role x hx1
      have hxa : x.1 ≠ a := by simpa using hx2
      simp only [if_neg (hne x hx1)]
      refine ⟨v, ?_, own_kept h2 kp fun z hz => ?_, h3⟩
      · show _ = some (Obj.cells #[v, .int .i64 (moreOf (renB D.B a b) x.1 : Nat)] _ _)
        rw [moreOf_ren hab hB, if_neg (hne x hx1), if_neg hxa]
        exact kp.heap h1 (hkeep _ (by rw [hr]; decide) (by rw [hr]; decide))
      · have := h3 z hz
        exact hkeep z (by rw [this]; simp) (by rw [this]; simp)
    · simp only [List.mem_singleton] at hx
      subst hx
      obtain ⟨v, h1, h2, h3⟩ := h.fl.lie _ hs
      have hr := h.fl.role _ hs
      simp only at h1 h2 h3 hr
      simp only [if_true]
      refine ⟨v, ?_, own_kept h2 kp fun z hz => ?_, h3⟩
      · show _ = some (Obj.cells #[v, .int .i64 (moreOf (renB D.B a b) b : Nat)] _ _)
        rw [moreOf_ren hab hB, if_pos rfl]
        exact kp.heap h1 (hkeep _ (by rw [hr]; decide) (by rw [hr]; decide))
      · have := h3 z hz
        exact hkeep z (by rw [this]; simp) (by rw [this]; simp)
  · intro x hx
    rcases List.mem_append.1 hx with hx | hx
    · have hx1 := (List.mem_filter.1 hx).1
      simp only [if_neg (hne x hx1)]
      exact h.fl.role x hx1
    · simp only [List.mem_singleton] at hx
      subst hx
      simp only [if_true]
      exact h.fl.role _ hs
  · intro x hx y hy e
    have hfa : ∀ x ∈ adel D.F a, fp x.1 ≠ fp a := fun x hx e => by
      obtain ⟨hx1, hx2⟩ := List.mem_filter.1 hx
      exact (by simpa using hx2 : x.1 ≠ a) (h.fl.inj x hx1 _ hs e)
    rcases List.mem_append.1 hx with hx | hx <;> rcases List.mem_append.1 hy with hy | hy
    · simp only [if_neg (hne x (List.mem_filter.1 hx).1), if_neg (hne y (List.mem_filter.1 hy).1)] at e
      exact h.fl.inj x (List.mem_filter.1 hx).1 y (List.mem_filter.1 hy).1 e
    · simp only [List.mem_singleton] at hy
      subst hy
      simp only [if_neg (hne x (List.mem_filter.1 hx).1), if_true] at e
      exact absurd e (hfa x hx)
    · simp only [List.mem_singleton] at hx
      subst hx
      simp only [if_neg (hne y (List.mem_filter.1 hy).1), if_true] at e
      exact absurd e.symm (hfa y hy)
    · simp only [List.mem_singleton] at hx hy
      rw [hx, hy]
  · show renB D.B a b = _
    unfold renB
    rw [h.bf.eq, List.map_map, List.map_map]
    apply List.map_congr_left
    intro x _
    simp only [Function.comp]
    split <;> rfl
  · have e : wcs (fun k => if k = b then fp a else fp k) (BV.map fun x => if x.1 = a then (b, x.2) else x) = wcs fp BV := by
      clear hmap
      unfold wcs
      generalize BV = l at hBV
      induction l with
      | nil => rfl
      | cons y l ih =>
        simp only [List.map_cons, List.flatMap_cons]
        rw [ih (fun x hx => hBV x (List.mem_cons_of_mem _ hx))]
        congr 1
        by_cases e : y.1 = a
        · rw [if_pos e]; simp [e]
        · rw [if_neg e, if_neg (hBV y (List.mem_cons_self ..))]
    rw [e]
    have hl : (renB D.B a b).length = D.B.length := by simp [renB]
    show wF.ownsRow 0 67 2 bv (renB D.B a b).length _
    rw [hl]
    exact own_kept h.bf.row kp fun z hz => hkeep z (by rw [h.bf.role z hz]; simp) (by rw [h.bf.role z hz]; simp)
  · exact h.bf.role
  · intro x hx
    obtain ⟨y, hy, rfl⟩ := List.mem_map.1 hx
    obtain ⟨h1, h2⟩ := h.bf.data y hy
    have h3 := own_kept h1 kp fun z hz => hkeep z (by rw [h2 z hz]; simp) (by rw [h2 z hz]; simp)
    split
    · exact ⟨h3, h2⟩
    · exact ⟨h3, h2⟩
  · have e : blks (BV.map fun x => if x.1 = a then (b, x.2) else x) = blks BV := by
      unfold blks
      rw [List.filterMap_map]
      congr 1
      funext x
      simp only [Function.comp]
      split <;> rfl
    rw [e]
    exact h.bf.one
  · intro x hx
    obtain ⟨y, hy, rfl⟩ := List.mem_map.1 (show x ∈ renB D.B a b from hx)
    show _ ∈ (adel D.F a ++ [(b, s)] : List (Nm × By)).map (fun y => y.1)
    rw [List.map_append]
    by_cases e : y.1 = a
    · rw [if_pos e]; exact List.mem_append_right _ (by simp)
    · rw [if_neg e]
      obtain ⟨s', hs'⟩ := mem_keys (h.names y hy)
      exact List.mem_append_left _ (List.mem_map.2 ⟨(y.1, s'), List.mem_filter.2 ⟨hs', by simpa using e⟩, rfl⟩)
  · show ((usedOf (adel D.F a ++ [(b, s)]) (renB D.B a b) : Nat) : Int) ≤ D.blocks
    rw [hu]; exact h.us
end Go.Proofs.Ytdlbccjimdghkaa
