/- A row of pairs, sorted: the library's contract on an own row. No condition. -/
import Derived.Test.YtodledidabdkaaaDoorWE
namespace Go.Proofs.YtodledidabdkaaaDoor
open Go.RowKit Go.Shelf Go.Sort V
set_option linter.unusedVariables false
set_option linter.unusedSimpArgs false
instance : Inhabited Slot := ⟨zslot⟩
theorem swo_cf : SWO (ltOf cfP) where
  irrefl x := by
    unfold ltOf cfP cmpP
    rw [if_neg lt_ir, if_neg lt_ir]; rfl
  trans x y z h1 h2 := by
    have hh : ∀ p q : Slot, ltOf cfP p q = true ↔ bl p.1 < bl q.1 := fun p q => by
      unfold ltOf cfP cmpP
      by_cases h : bl p.1 < bl q.1
      · simp [h]
      · rw [if_neg h]
        by_cases h' : bl q.1 < bl p.1
        · rw [if_pos h']; simpa using List.not_lt.1 h
        · rw [if_neg h']; simpa using List.not_lt.1 h
    rw [hh] at *
    exact lt_tr h1 h2
  ntrans x y z h1 h2 := by
    have hh : ∀ p q : Slot, ltOf cfP p q = false ↔ ¬ bl p.1 < bl q.1 := fun p q => by
      unfold ltOf cfP cmpP
      by_cases h : bl p.1 < bl q.1
      · simp [h]
      · rw [if_neg h]
        by_cases h' : bl q.1 < bl p.1
        · rw [if_pos h']; simpa using List.not_lt.1 h
        · rw [if_neg h']; simpa using List.not_lt.1 h
    rw [hh] at *
    exact List.not_lt.2 (List.le_trans (List.not_lt.1 h2) (List.not_lt.1 h1))
theorem lt_cf {p q : Slot} : ltOf cfP p q = false ↔ ¬ bl p.1 < bl q.1 := by
  unfold ltOf cfP cmpP
  by_cases h : bl p.1 < bl q.1
  · simp [h]
  · rw [if_neg h]
    by_cases h' : bl q.1 < bl p.1
    · rw [if_pos h']; simpa using List.not_lt.1 h
    · rw [if_neg h']; simpa using List.not_lt.1 h
theorem flat_scs (l : Array Slot) : (flatK enP 2 l).toList = scs l.toList := by
  apply List.ext_getElem?
  intro t
  by_cases ht : t < l.size * 2
  · have h1 := get_flatK enP 2 l t ht
    rw [getElem!_pos _ t (by simpa using ht)] at h1
    rw [Array.getElem?_toList, Array.getElem?_eq_getElem (by simpa using ht), h1]
    have hi : t / 2 < l.size := by omega
    obtain ⟨g1, g2⟩ := scs_get (l := l.toList) (i := t / 2) (s := l[t / 2]!) (by rw [Array.getElem?_toList, Array.getElem?_eq_getElem hi, getElem!_pos l _ hi])
    rcases Nat.mod_two_eq_zero_or_one t with h | h
    · rw [show t / 2 * 2 = t from by omega] at g1
      rw [g1, h]; rfl
    · rw [show t / 2 * 2 + 1 = t from by omega] at g2
      rw [g2, h]; rfl
  · rw [List.getElem?_eq_none (by simpa using ht), List.getElem?_eq_none (by rw [scs_len]; simpa using ht)]
theorem holds_of_cells {w : World} {g n : Nat} {cur F : Array Value} {e : TypeId} (hb : w.heap[g]? = some (.cells cur e (0, 0))) (hF : F.size = n) (ht : cur.toList.take n = F.toList) : Holds id w g 0 F := by
  intro j hj
  refine ⟨?_, by simp [World.frozen?, hb]⟩
  have h1 : (cur.toList.take n)[j]? = F.toList[j]? := by rw [ht]
  rw [List.getElem?_take_of_lt (by omega)] at h1
  simp only [World.cell?, hb, Nat.zero_add]
  simp only [Option.isSome_none, Bool.false_eq_true, if_false]
  rw [← Array.getElem?_toList, h1, Array.getElem?_toList, Array.getElem?_eq_getElem hj, getElem!_pos F j hj]
  rfl
theorem heap_putF {w : World} {g m : Nat} {cur F : Array Value} {e : TypeId} {os : Array Obj} (hb : w.heap[g]? = some (.cells cur e (0, 0))) :
    (grow (putRow id (Sort.ahead w m) g 0 F) os).heap[g]? = some (.cells (putCells id 0 F cur) e (0, 0)) := by
  have hl := (Array.getElem?_eq_some_iff.1 hb).1
  rw [heap_grow_old _ _ (by simpa [putRow, mapBlock, Sort.ahead] using hl)]
  simp [putRow, mapBlock, Sort.ahead, Array.getElem?_modify, hb, onCells]
theorem take_putF (cur F : Array Value) (h : F.size ≤ cur.size) : (putCells id 0 F cur).toList.take F.size = F.toList := by
  apply List.ext_getElem?
  intro j
  by_cases hj : j < F.size
  · rw [List.getElem?_take_of_lt hj, Array.getElem?_toList, Array.getElem?_toList, Array.getElem?_eq_getElem hj]
    unfold putCells
    rw [Array.getElem?_mapIdx, Array.getElem?_eq_getElem (by omega)]
    simp [hj]
  · rw [List.getElem?_eq_none (by simp; omega), List.getElem?_eq_none (by simpa using hj)]
theorem grownBy_putF {w : World} {g m : Nat} {F : Array Value} {os : Array Obj} : w.grownBy (grow (putRow id (Sort.ahead w m) g 0 F) os) (some g) := by
  refine ⟨rfl, rfl, rfl, by simp, fun k hk hne => ?_⟩
  rw [heap_grow_old _ _ (by simpa using hk)]
  have : g ≠ k := fun e => hne (by rw [e])
  simp [putRow, mapBlock, Sort.ahead, Array.getElem?_modify, this]
theorem grow_drew (W : World) (os : Array Obj) (n : Nat) : (grow W os).drewN n = grow (W.drewN n) os := rfl
theorem sortp_any (base : Nat) (v : Value) (l : List Slot) (hl : l.length ≤ 3000) (w : World) (h : w.ownsRow base 42 2 v l.length (scs l)) :
    Calls Tryd.prog 24 #[v, .func (.func 25) #[] #[]] w fun e w' => e = .returned (.tuple #[]) ∧ ∃ m : List Slot, m.Perm l ∧ (m.Pairwise fun a b => ¬ bl b.1 < bl a.1) ∧ w'.ownsRow base 42 2 v m.length (scs m) ∧ w.grownBy w' v.ownBlock := by
  rcases h.2 with ⟨rfl, hz⟩ | ⟨g, cap, cur, rfl, hbase, hg, r1, r2, r3, r4⟩
  · have hss : l = [] := List.eq_nil_of_length_eq_zero hz
    subst hss
    have hc := AnyF.slices_SortFunc_none Tryd.sortP none 0 (.func (.func 25) #[] #[]) w
    change Calls Tryd.prog 24 _ _ _ at hc
    refine hc.mono ?_
    rintro e w' ⟨rfl, rfl⟩
    exact ⟨rfl, [], List.Perm.refl _, List.Pairwise.nil, h, ⟨rfl, rfl, rfl, Nat.le_refl _, fun _ _ _ => rfl⟩⟩
  · have hF : (flatK enP 2 l.toArray).size = l.length * 2 := by simp
    have hH : HoldsK enP 2 w g 0 l.toArray := holds_of_cells hg hF (by rw [r4, flat_scs])
    have hc := AnyQ.slices_SortFunc Tryd.sortP 2 (fun w => by rw [show (Tryd.sortP_ren).t 24 = 42 from rfl, Tryd.isAgg42]) (fun w => by rw [show (Tryd.sortP_ren).t 24 = 42 from rfl, Tryd.sizeOf42]) enP (fun _ => rfl) (fun x v hv => by simp [enP] at hv; rcases hv with rfl | rfl <;> rfl) cfP swo_cf 25 #[] g 0 cap l.toArray w
      (enters_of Tryd.func25 (by kernel_rfl) rfl) (fun m os dk _ x y => (ipairs1_any x y _).mono fun e w' h => h) hH (blk_lt hg) (by simp; omega)
    change Calls Tryd.prog 24 #[.slice (some ⟨g, 0, none⟩) l.length cap, _] _ _ at hc
    refine hc.mono ?_
    rintro e w' ⟨rfl, d', n, os, ⟨hp1, hp2, hp3⟩, hs, rfl⟩
    have hsz : d'.toList.length = l.length := by simpa using hp1
    have hF' : (flatK enP 2 d').size = l.length * 2 := by rw [size_flatK, hp1]; simp
    refine ⟨rfl, d'.toList, ?_, ?_, ?_, grownBy_putF⟩
    · have := hp3
      simp only [List.size_toArray, ← hsz] at this
      rw [show d'.extract 0 d'.toList.length = d' from by simp, show l.toArray.extract 0 d'.toList.length = l.toArray from by rw [hsz]; simp] at this
      exact this
    · rw [List.pairwise_iff_getElem]
      intro i j hi hj hij
      have := hs i j (Nat.zero_le _) hij (by rw [List.size_toArray]; omega)
      rw [lt_cf, getElem!_pos d' i (by simpa using hi), getElem!_pos d' j (by simpa using hj)] at this
      simpa using this
    · refine ⟨by rw [scs_len], .inr ⟨g, cap, _, by rw [hsz], hbase, heap_putF hg, by omega, r2, by simpa [putCells] using r3, ?_⟩⟩
      have h3 := take_putF cur (flatK enP 2 d') (by rw [hF', r3]; exact Nat.mul_le_mul_right _ r1)
      rw [flat_scs, hF'] at h3
      rw [hsz]
      exact h3
end Go.Proofs.YtodledidabdkaaaDoor
