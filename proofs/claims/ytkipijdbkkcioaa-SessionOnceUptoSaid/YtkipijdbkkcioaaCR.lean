/- The session table and the document's, side by side: what each act makes of both (plain: no program). No condition but that they are alike. -/
import Derived.Test.YtkipijdbkkcioaaCQ
import Derived.Test.YtkipijdbkkcioaaSC
namespace Go.Proofs.Ytkipijdbkkcioaa
set_option linter.unusedVariables false
set_option linter.unusedSimpArgs false
abbrev ML (L : List (Int × Raw)) : List (Int × Int × RD) := L.map fun x => (x.1, x.2.seq, x.2.r)
abbrev keysL {β : Type} (L : List (Int × β)) : List Int := L.map (·.1)
/-- Alike: the same answers, the same ids; the document's rise. -/
structure Al (T : List (Int × Int × RD)) (L : List (Int × Raw)) : Prop where
  get : ∀ id, aget T id = aget (ML L) id
  perm : (keysL T).Perm (keysL L)
  asc : (keysL L).Pairwise (· < ·)
theorem nd_of_asc {l : List Int} (h : l.Pairwise (· < ·)) : l.Nodup := h.imp fun h => by omega
theorem aget_none_iff {β : Type} (L : List (Int × β)) (id : Int) : aget L id = none ↔ ∀ x ∈ L, x.1 ≠ id := by
  unfold aget
  rw [Option.map_eq_none_iff, List.find?_eq_none]
  simp
theorem aget_at {β : Type} {L : List (Int × β)} (h : (keysL L).Nodup) {k : Nat} {x : Int × β} (hx : L[k]? = some x) : aget L x.1 = some x.2 := by
  induction L generalizing k with
  | nil => simp at hx
  | cons y L ih =>
    simp only [keysL, List.map_cons, List.nodup_cons] at h
    cases k with
    | zero => simp at hx; subst hx; simp [aget]
    | succ k =>
      have hx' : L[k]? = some x := by simpa using hx
      have hne : y.1 ≠ x.1 := fun e => h.1 (e ▸ List.mem_map.2 ⟨x, List.mem_of_getElem? hx', rfl⟩)
      have := ih h.2 hx'
      unfold aget at this ⊢
      rw [List.find?_cons, show (y.1 == x.1) = false from by simpa using hne]
      exact this
theorem adel_eq_erase {β : Type} : ∀ {L : List (Int × β)} {j : Nat} {x : Int × β}, (keysL L).Nodup → L[j]? = some x → adel L x.1 = L.eraseIdx j
  | [], j, _, _, h => by simp at h
  | y :: L, 0, x, hn, h => by
    simp only [List.getElem?_cons_zero, Option.some.injEq] at h
    subst h
    simp only [keysL, List.map_cons, List.nodup_cons] at hn
    simp only [adel, List.eraseIdx_zero, List.tail_cons]
    rw [List.filter_cons_of_neg (by simp)]
    apply List.filter_eq_self.2
    intro z hz
    simp only [ne_eq, decide_eq_true_eq]
    exact fun e => hn.1 (List.mem_map.2 ⟨z, hz, e⟩)
  | y :: L, j + 1, x, hn, h => by
    simp only [keysL, List.map_cons, List.nodup_cons] at hn
    have h' : L[j]? = some x := by simpa using h
    have hx : y.1 ≠ x.1 := fun e => hn.1 (List.mem_map.2 ⟨x, List.mem_of_getElem? h', e.symm⟩)
    have ih := adel_eq_erase (x := x) hn.2 h'
    simp only [adel] at ih ⊢
    rw [List.filter_cons_of_pos (by simpa using hx), ih, List.eraseIdx_cons_succ]
theorem set_eq_aset {β : Type} {L : List (Int × β)} {k : Nat} {x : Int × β} (hn : (keysL L).Nodup) (hx : L[k]? = some x) (y : β) : L.set k (x.1, y) = aset L x.1 y := by
  have hs : (aget L x.1).isSome = true := by rw [aget_at hn hx]; rfl
  rw [aset, if_pos hs]
  clear hs
  induction L generalizing k with
  | nil => simp at hx
  | cons z L ih =>
    simp only [keysL, List.map_cons, List.nodup_cons] at hn
    cases k with
    | zero =>
      simp at hx; subst hx
      rw [List.set_cons_zero, List.map_cons, if_pos rfl]
      congr 1
      symm
      rw [List.map_congr_left (g := id), List.map_id]
      intro u hu
      rw [if_neg (fun e => hn.1 (List.mem_map.2 ⟨u, hu, e⟩))]; rfl
    | succ k =>
      have hx' : L[k]? = some x := by simpa using hx
      rw [List.set_cons_succ, ih hn.2 hx', List.map_cons, if_neg (fun e : z.1 = x.1 => hn.1 (e ▸ List.mem_map.2 ⟨x, List.mem_of_getElem? hx', rfl⟩))]
theorem keys_aset {β : Type} {L : List (Int × β)} {id : Int} (y : β) (h : (aget L id).isSome = true) : keysL (aset L id y) = keysL L := by
  rw [aset, if_pos h, keysL, keysL, List.map_map]
  apply List.map_congr_left
  intro x _
  simp only [Function.comp]
  split
  · rename_i e; exact e.symm
  · rfl
theorem keys_adel {β : Type} (L : List (Int × β)) (id : Int) : keysL (adel L id) = (keysL L).filter (fun k => decide (k ≠ id)) := by
  rw [keysL, keysL, adel, List.filter_map]
  rfl
theorem ML_keys (L : List (Int × Raw)) : keysL (ML L) = keysL L := by simp [keysL, ML]

theorem Al.find {T : List (Int × Int × RD)} {L : List (Int × Raw)} (h : Al T L) (id : Int) : (findI L id = -1 ∧ aget T id = none ∧ (∀ x ∈ L, x.1 ≠ id)) ∨ ∃ (k : Nat) (x : Raw), findI L id = k ∧ L[k]? = some (id, x) ∧ aget T id = some (x.seq, x.r) ∧ k < L.length := by
  rcases findI_cases L id with ⟨h1, h2⟩ | ⟨k, x, h1, h2, h3, h4⟩
  · refine .inl ⟨h1, ?_, h2⟩
    rw [h.get, aget_none_iff]
    intro y hy
    obtain ⟨z, hz, rfl⟩ := List.mem_map.1 hy
    exact h2 z hz
  · obtain ⟨i, x⟩ := x
    dsimp only at h3
    subst h3
    refine .inr ⟨k, x, h1, h2, ?_, h4⟩
    rw [h.get]
    exact aget_at (L := ML L) (by rw [ML_keys]; exact nd_of_asc h.asc) (k := k) (x := (i, x.seq, x.r)) (by rw [List.getElem?_map, h2]; rfl)
theorem Al.len {T : List (Int × Int × RD)} {L : List (Int × Raw)} (h : Al T L) : T.length = L.length := by
  have := h.perm.length_eq
  simpa [keysL] using this
theorem Al.nil : Al [] [] := ⟨fun _ => rfl, .nil, .nil⟩

/-! Done -/
theorem Al.doneErr {T : List (Int × Int × RD)} {L : List (Int × Raw)} (h : Al T L) (id seq : Int) : doneErr T id seq = rdoneErr L id seq := by
  rcases h.find id with ⟨h1, h2, _⟩ | ⟨k, x, h1, h2, h3, _⟩
  · rw [Go.Proofs.Ytkipijdbkkcioaa.doneErr, h2, rdoneErr, h1]; rfl
  · rw [Go.Proofs.Ytkipijdbkkcioaa.doneErr, h3, rdoneErr, h1]; simp only [h2]
theorem Al.done {T : List (Int × Int × RD)} {L : List (Int × Raw)} (h : Al T L) (id seq : Int) (r : RD) (A : Option Addr) (c : Nat) : Al (doneT T id seq r) (rdoneL L id seq ⟨seq, r, A, c⟩) := by
  unfold doneT rdoneL
  rw [h.doneErr]
  split
  · rename_i h0
    rcases h.find id with ⟨h1, h2, _⟩ | ⟨k, x, h1, h2, h3, hk⟩
    · rw [rdoneErr, h1] at h0; cases h0
    · have hn := nd_of_asc h.asc
      have e1 : L.set (findI L id).toNat (id, ⟨seq, r, A, c⟩) = aset L id ⟨seq, r, A, c⟩ := by rw [h1]; exact set_eq_aset (x := (id, x)) hn h2 _
      have hs : (aget T id).isSome = true := by rw [h3]; rfl
      have hs2 : (aget L id).isSome = true := by rw [aget_at (x := (id, x)) hn h2]; rfl
      rw [e1]
      refine ⟨fun j => ?_, ?_, ?_⟩
      · rw [ML, ← aset_map (fun x : Raw => (x.seq, x.r))]
        by_cases e : j = id
        · subst e; rw [aget_aset_same, aget_aset_same]
        · rw [aget_aset_other _ _ _ _ e, aget_aset_other _ _ _ _ e]; exact h.get j
      · rw [keys_aset _ hs, keys_aset _ hs2]; exact h.perm
      · rw [keys_aset _ hs2]; exact h.asc
  · exact h
/-! Expire -/
theorem Al.expErr {T : List (Int × Int × RD)} {L : List (Int × Raw)} (h : Al T L) (id : Int) : expErr T id = rexpErr L id := by
  rcases h.find id with ⟨h1, h2, _⟩ | ⟨k, x, h1, h2, h3, _⟩
  · rw [Go.Proofs.Ytkipijdbkkcioaa.expErr, h2, rexpErr, h1]; rfl
  · rw [Go.Proofs.Ytkipijdbkkcioaa.expErr, h3, rexpErr, h1]; rfl
theorem Al.exp {T : List (Int × Int × RD)} {L : List (Int × Raw)} (h : Al T L) (id : Int) : Al (expT T id) (rexpL L id) := by
  rcases h.find id with ⟨h1, h2, _⟩ | ⟨k, x, h1, h2, h3, hk⟩
  · rw [expT, h2, rexpL, h1]; exact h
  · have hn := nd_of_asc h.asc
    have e1 : rexpL L id = adel L id := by rw [rexpL, h1]; exact (adel_eq_erase (x := (id, x)) hn h2).symm
    rw [expT, h3, e1]
    simp only [Option.isSome_some, if_true]
    refine ⟨fun j => ?_, ?_, ?_⟩
    · rw [ML, ← adel_map (fun x : Raw => (x.seq, x.r))]
      by_cases e : j = id
      · subst e; rw [aget_adel_same, aget_adel_same]
      · rw [aget_adel_other _ _ _ e, aget_adel_other _ _ _ e]; exact h.get j
    · rw [keys_adel, keys_adel]; exact h.perm.filter _
    · rw [keys_adel]; exact h.asc.filter _
/-! Open -/
theorem ins_foldl_true (id : Int) (L q : List (Int × Raw)) : L.foldl (insStep id) (q, true) = (q ++ L, true) := by
  induction L generalizing q with
  | nil => simp
  | cons x L ih =>
    rw [List.foldl_cons, insStep, if_neg (fun h => by cases h.2), ih]
    simp
theorem ins_foldl (id : Int) (L q : List (Int × Raw)) : ((∀ x ∈ L, ¬ id < x.1) ∧ L.foldl (insStep id) (q, false) = (q ++ L, false)) ∨ ∃ L1 y L2, L = L1 ++ y :: L2 ∧ (∀ x ∈ L1, ¬ id < x.1) ∧ id < y.1 ∧ L.foldl (insStep id) (q, false) = (q ++ L1 ++ (id, Raw.z) :: y :: L2, true) := by
  induction L generalizing q with
  | nil => exact .inl ⟨by simp, by simp⟩
  | cons x L ih =>
    by_cases hx : id < x.1
    · refine .inr ⟨[], x, L, rfl, by simp, hx, ?_⟩
      rw [List.foldl_cons, insStep, if_pos ⟨hx, rfl⟩, ins_foldl_true]
      simp
    · rw [List.foldl_cons, insStep, if_neg (fun h => hx h.1)]
      rcases ih (q ++ [x]) with ⟨h1, h2⟩ | ⟨L1, y, L2, rfl, h1, h2, h3⟩
      · refine .inl ⟨?_, by rw [h2]; simp⟩
        intro u hu
        rcases List.mem_cons.1 hu with rfl | hu
        · exact hx
        · exact h1 u hu
      · refine .inr ⟨x :: L1, y, L2, rfl, ?_, h2, by rw [h3]; simp⟩
        intro u hu
        rcases List.mem_cons.1 hu with rfl | hu
        · exact hx
        · exact h1 u hu
theorem insAll_split (id : Int) (L : List (Int × Raw)) : ∃ L1 L2, L = L1 ++ L2 ∧ insAll id L = L1 ++ (id, Raw.z) :: L2 ∧ (∀ x ∈ L1, ¬ id < x.1) ∧ ∀ y L3, L2 = y :: L3 → id < y.1 := by
  rcases ins_foldl id L [] with ⟨h1, h2⟩ | ⟨L1, y, L2, rfl, h1, h2, h3⟩
  · exact ⟨L, [], by simp, by rw [insAll, insTo, h2]; simp, h1, by simp⟩
  · refine ⟨L1, y :: L2, rfl, by rw [insAll, insTo, h3]; simp, h1, ?_⟩
    intro y' L3 e
    injection e with e _
    rw [← e]; exact h2
theorem aget_insAll {L1 L2 : List (Int × Int × RD)} {id : Int} (v : Int × RD) (hn : ∀ x ∈ L1 ++ L2, x.1 ≠ id) (j : Int) : aget (L1 ++ (id, v) :: L2) j = if j = id then some v else aget (L1 ++ L2) j := by
  unfold aget
  rw [List.find?_append, List.find?_append, List.find?_cons]
  by_cases e : j = id
  · subst e
    have h1 : L1.find? (fun x => x.1 == j) = none := by
      rw [List.find?_eq_none]
      intro x hx
      simpa using hn x (List.mem_append_left _ hx)
    rw [h1]; simp
  · rw [if_neg e, show (id == j) = false from by simpa using (Ne.symm e)]
theorem Al.openErr {T : List (Int × Int × RD)} {L : List (Int × Raw)} (h : Al T L) (id : Int) : openErr T id = ropenErr L id := by
  unfold Go.Proofs.Ytkipijdbkkcioaa.openErr ropenErr
  rw [h.len]
  rcases h.find id with ⟨h1, h2, _⟩ | ⟨k, x, h1, h2, h3, _⟩
  · rw [h1, h2]; rfl
  · rw [h1, h3]
    have : (0 : Int) ≤ (k : Int) := by omega
    simp [this]
theorem Al.open {T : List (Int × Int × RD)} {L : List (Int × Raw)} (h : Al T L) (id : Int) : Al (openT T id) (ropenL L id) := by
  unfold openT ropenL
  rw [h.openErr]
  split
  · rename_i h0
    rcases h.find id with ⟨h1, h2, h3⟩ | ⟨k, x, h1, h2, h3, hk⟩
    · obtain ⟨L1, L2, e, e1, h4, h5⟩ := insAll_split id L
      have hT : aset T id (0, .z) = T ++ [(id, 0, RD.z)] := by rw [aset, h2]; rfl
      have hasc := h.asc
      rw [e] at hasc h3
      simp only [keysL, List.map_append, List.pairwise_append] at hasc
      obtain ⟨a1, a2, a3⟩ := hasc
      have hL1 : ∀ x ∈ L1, x.1 < id := fun x hx => by
        have := h4 x hx
        have := h3 x (List.mem_append_left _ hx)
        omega
      have hL2 : ∀ x ∈ L2, id < x.1 := by
        cases L2 with
        | nil => simp
        | cons y L3 =>
          have hy := h5 y L3 rfl
          intro x hx
          rcases List.mem_cons.1 hx with rfl | hx
          · exact hy
          · have : y.1 < x.1 := (List.pairwise_cons.1 a2).1 x.1 (List.mem_map.2 ⟨x, hx, rfl⟩)
            omega
      rw [hT, e1]
      refine ⟨fun j => ?_, ?_, ?_⟩
      · have e2 : ML (L1 ++ (id, Raw.z) :: L2) = ML L1 ++ (id, ((0 : Int), RD.z)) :: ML L2 := by simp [ML, Raw.z]
        rw [e2, aget_insAll (L1 := ML L1) (L2 := ML L2) _ (fun x hx => ?_)]
        · rw [← hT]
          by_cases ej : j = id
          · subst ej; rw [if_pos rfl, aget_aset_same]
          · rw [if_neg ej, aget_aset_other _ _ _ _ ej, h.get j, e]
            simp [ML]
        · rw [← List.map_append] at hx
          obtain ⟨z, hz, rfl⟩ := List.mem_map.1 hx
          exact h3 z hz
      · have hp := h.perm
        rw [e] at hp
        simp only [keysL, List.map_append, List.map_cons, List.map_nil] at hp ⊢
        refine (hp.append_right _).trans ?_
        rw [List.append_assoc]
        exact List.Perm.append_left _ (List.perm_append_comm)
      · simp only [keysL, List.map_append, List.map_cons, List.pairwise_append, List.pairwise_cons]
        refine ⟨a1, ⟨fun k hk => ?_, a2⟩, fun a ha b hb => ?_⟩
        · obtain ⟨x, hx, rfl⟩ := List.mem_map.1 hk
          exact hL2 x hx
        · obtain ⟨x, hx, rfl⟩ := List.mem_map.1 ha
          rcases List.mem_cons.1 hb with rfl | hb
          · exact hL1 x hx
          · exact a3 _ (List.mem_map.2 ⟨x, hx, rfl⟩) _ hb
    · rw [ropenErr, h1] at h0
      have : (0 : Int) ≤ (k : Int) := by omega
      rw [if_pos this] at h0
      split at h0 <;> cases h0
  · exact h
/-! Ask -/
theorem Al.ask {T : List (Int × Int × RD)} {L : List (Int × Raw)} (h : Al T L) (id seq : Int) : askErr T id seq = (askOf L id seq).2 ∧ askR T id seq = (askOf L id seq).1.r := by
  rcases h.find id with ⟨h1, h2, h3⟩ | ⟨k, x, h1, h2, h3, hk⟩
  · rw [askR, askErr, h2, askOf, h1]; exact ⟨rfl, rfl⟩
  · rw [askR, askErr, h3, askOf, h1]
    simp only [h2, Option.getD_some]
    by_cases a1 : seq < x.seq ∨ seq < 1
    · rw [if_pos a1, if_pos (by omega)]; exact ⟨rfl, by simp [Raw.z]⟩
    · rw [if_neg a1, if_neg (by omega)]
      by_cases a2 : seq = x.seq
      · rw [if_pos a2, if_neg (by omega)]; exact ⟨rfl, by simp⟩
      · rw [if_neg a2, if_pos (by omega)]; exact ⟨rfl, by simp [Raw.z]⟩
/-! Ids and bytes -/
theorem Al.ids {T : List (Int × Int × RD)} {L : List (Int × Raw)} (h : Al T L) {ks : List Int} (hp : ks.Perm (T.map (·.1))) (hs : ks.Pairwise (· ≤ ·)) : ks = keysL L := by
  have h1 : ks.Perm (keysL L) := hp.trans h.perm
  exact List.Perm.eq_of_pairwise (le := (· ≤ ·)) (fun a b _ _ h1 h2 => by omega) hs (h.asc.imp fun h => by omega) h1
theorem Al.bytes {T : List (Int × Int × RD)} {L : List (Int × Raw)} (h : Al T L) : encTab T (keysL L) = enc L.length ++ encEns L := by
  rw [encTab, h.len]
  congr 1
  have hn := nd_of_asc h.asc
  have key : ∀ x ∈ L, entryOf T x.1 = enOf x := by
    intro x hx
    obtain ⟨k, hk⟩ := List.mem_iff_getElem?.1 hx
    rw [entryOf, h.get, aget_at (L := ML L) (by rw [ML_keys]; exact hn) (k := k) (x := (x.1, x.2.seq, x.2.r)) (by rw [List.getElem?_map, hk]; rfl)]
    rfl
  rw [encIds, encEns, keysL, List.flatMap_map]
  suffices ∀ M : List (Int × Raw), (∀ x ∈ M, x ∈ L) → (M.flatMap fun x => encEntry (entryOf T x.1)) = M.flatMap fun x => encEntry (enOf x) from this L fun _ h => h
  intro M
  induction M with
  | nil => intro _; rfl
  | cons x M ih =>
    intro hM
    rw [List.flatMap_cons, List.flatMap_cons, ih (fun y hy => hM y (List.mem_cons_of_mem _ hy)), key x (hM x (List.mem_cons_self ..))]
end Go.Proofs.Ytkipijdbkkcioaa
