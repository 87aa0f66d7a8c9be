/- The disk: List, walked once, over the library's contracts. No condition on the disk but that it lies as Dk says, and that its names are not great. -/
import Derived.Test.YtdlbccjimdghkaaIT
import Derived.Test.YtdlbccjimdghkaaEK
namespace Go.Proofs.Ytdlbccjimdghkaa
open Go.RowKit
set_option linter.unusedVariables false
set_option linter.unusedSimpArgs false
abbrev noVal : Value → Option (DataW Unit × List MemPlace) := fun _ => some (.lit (.bool true), [])
theorem smap_own {w : World} {m : Nat} {L : List (Nm × Value)} (h : SMap w m L) (hl : L.length ≤ maxLen) (hk : ∀ x ∈ L, x.1.size ≤ maxLen) :
    ∃ D0 : DataW Unit, w.ownsMap Try.prog 9 noVal m L.length D0 ∧ (strKeys D0).Perm (L.map fun x => x.1.data.toList) ∧ Maps.size D0 = L.length := by
  obtain ⟨es, ck, hb, hst, hL⟩ := h
  have hlen : es.size = L.length := by
    have := congrArg List.length hL
    simpa using this
  have hkeys : ∀ x ∈ es.toList, ∃ y ∈ L, x.key = .string y.1 := by
    intro x hx
    have : (x.key, x.val) ∈ L.map (fun x => (Value.string x.1, x.2)) := hL ▸ List.mem_map.2 ⟨x, hx, rfl⟩
    obtain ⟨y, hy, e⟩ := List.mem_map.1 this
    exact ⟨y, hy, (Prod.mk.inj e).1.symm⟩
  have hrd : ∀ x ∈ es.toList, ∃ s : ByteArray, x.key = .string s ∧ WideElems.rd Try.prog 9 noVal x = some (.string s.data.toList, .lit (.bool true)) := by
    intro x hx
    obtain ⟨y, hy, e⟩ := hkeys x hx
    refine ⟨y.1, e, ?_⟩
    unfold WideElems.rd
    rw [e, WideMaps.keyOf_string_mk Try.underlying9 (hk y hy)]
    rfl
  refine ⟨.map ((es.toList.map (WideElems.rg Try.prog 9 noVal)).foldr DataW.insert []), ⟨es, ck, hb, ⟨by rw [hlen]; exact hl, hst, fun x hx => ?_⟩, by rw [hlen]; exact Nat.le_refl _, rfl⟩, ?_, ?_⟩
  · obtain ⟨s, _, h⟩ := hrd x hx
    exact ⟨_, h⟩
  · show ((es.toList.map (WideElems.rg Try.prog 9 noVal)).foldr DataW.insert [] |>.map fun p => strOf p.1).Perm _
    refine ((WideShapes.sorted_perm _).map _).trans ?_
    rw [List.map_map]
    have : es.toList.map ((fun p : Lit × DataW Unit => strOf p.1) ∘ WideElems.rg Try.prog 9 noVal) = L.map fun x => x.1.data.toList := by
      have h2 : L.map (fun x => x.1.data.toList) = (L.map fun x => (Value.string x.1, x.2)).map (fun p => match p.1 with | .string s => s.data.toList | _ => []) := by
        rw [List.map_map]; rfl
      rw [h2, ← hL, List.map_map]
      apply List.map_congr_left
      intro x hx
      obtain ⟨s, e, h⟩ := hrd x hx
      simp only [Function.comp, WideElems.rg_of h, e, strOf]
    rw [this]
  · show ((es.toList.map (WideElems.rg Try.prog 9 noVal)).foldr DataW.insert []).length = _
    rw [(WideShapes.sorted_perm _).length_eq, List.length_map]
    simpa using hlen
def ListP (w : World) (D : DS) (e : Ending) (w' : World) : Prop :=
  ∃ (v : Value) (ks : List Nm), e = .returned v ∧ ks.Perm (D.F.map (·.1)) ∧ ks.Pairwise (fun a b : Nm => a.data.toList ≤ b.data.toList) ∧ w'.ownsRow w.heap.size 9 1 v ks.length (ks.map Value.string) ∧ Kp All w w'
set_option maxRecDepth 100000 in
theorem list_any (p : Nat) (ro : Nat → Role) (D : DS) (hoff : D.off = false) (hnm : ∀ x ∈ D.F, x.1.size ≤ 1000) (hfl : D.F.length ≤ 16777216) (w : World) (h : Dk w p ro D) :
    Calls Try.prog 25 #[.pointer (some ⟨p, 0, none⟩)] w (ListP w D) := by
  obtain ⟨m, fp, bv, BV, h⟩ := h
  have H := hid h
  have c1 := blk_cell h.cell
  have hmx : (9223372036854775807 : Nat) ≤ maxLen := by decide
  obtain ⟨D0, hown, hperm, hsize⟩ := smap_own h.map (by rw [List.length_map]; omega) (fun x hx => by
    obtain ⟨y, hy, rfl⟩ := List.mem_map.1 hx
    have := hnm y hy
    simp only; omega)
  rw [List.length_map] at hown hsize
  have HOW := hid hown; have HPM := hid hperm; have HSZ := hid hsize; have HOF := hid hoff; have HFL := hid hfl
  unfold dcs at c1
  rw [hoff] at c1
  clear h hown hperm hsize hoff hnm hfl
  go_enter Try.func25, Try.ntmps25
  go_wp2_with fail
  refine (on_any p m D _ bv w H.out.cell).mono ?_
  rw [HOF.out]
  rintro e w1 ⟨rfl, rfl⟩
  go_wp2_with fail
  refine (callsIn_wide.1 (Try.maps_Keys_45 (some m) w)).mono ?_
  rintro e w1 ⟨rfl, rfl⟩
  go_wp2_with fail
  refine (callsIn_wide.1 (Try.slices_Sorted_keys_44_45 m D.F.length D0 noVal w HOW.out (by rw [HSZ.out]; have := HFL.out; omega) (by rw [HSZ.out]; have := HFL.out; omega))).mono ?_
  rintro e w2 ⟨v, ss, rfl, hS, hrow, hnil, hb⟩
  have HS := hid hS; have HROW := hid hrow; have HB := hid hb
  obtain ⟨VA, vc, rfl⟩ := own_shape hrow
  clear hS hrow hnil hb
  go_wp2_with fail
  go_ret
  have hml : (ss.mergeSort fun x y => decide (x ≤ y)).Perm ss := List.mergeSort_perm ss _
  have e1 : ((ss.mergeSort fun x y => decide (x ≤ y)).map fun l => (⟨l.toArray⟩ : Nm)).map Value.string = (ss.mergeSort fun x y => decide (x ≤ y)).map encStr := by
    rw [List.map_map]; rfl
  refine ⟨_, (ss.mergeSort fun x y => decide (x ≤ y)).map fun l => ⟨l.toArray⟩, rfl, ?_, ?_, ?_, ?_⟩
  · refine ((hml.trans (HS.out.trans HPM.out)).map _).trans ?_
    rw [List.map_map, List.map_map]
    have : D.F.map (((fun l => (⟨List.toArray l⟩ : Nm)) ∘ (fun x : Nm × Value => x.1.data.toList)) ∘ fun x => (x.1, Value.pointer (some ⟨fp x.1, 0, none⟩))) = D.F.map (·.1) := by
      apply List.map_congr_left
      intro x _
      simp [Function.comp]
    rw [this]
  · have hpw := List.pairwise_mergeSort (le := fun x y : List UInt8 => decide (x ≤ y)) (fun a b c h1 h2 => by
      simp only [decide_eq_true_eq] at *
      exact List.le_trans h1 h2) (fun a b => by
      simp only [Bool.or_eq_true, decide_eq_true_eq]
      exact List.le_total a b) ss
    rw [List.pairwise_map]
    exact hpw.imp fun h => by simpa using h
  · rw [e1, List.length_map, hml.length_eq]
    have h := HROW.out
    obtain ⟨h1, h2⟩ := h
    refine ⟨h1, ?_⟩
    rcases h2 with hn | ⟨g, cap, cur, e, hb, rest⟩
    · exact .inl hn
    · exact .inr ⟨g, cap, cur, e, by rw [World.size_alloc] at hb; omega, rest⟩
  · exact (Kp.al _ _).trans (Kp.of_below HB.out (Nat.le_refl _))
end Go.Proofs.Ytdlbccjimdghkaa
