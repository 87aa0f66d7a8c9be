/- The document's PutText and PutBool: walked once each. No condition but that the rows are not great. -/
import Derived.Test.YtkipijdbkkcioaaCH
namespace Go.Proofs.Ytkipijdbkkcioaa
open Go.RowKit
set_option linter.unusedVariables false
set_option linter.unusedSimpArgs false
theorem sl_alloc {A : Option Addr} {n c sz : Nat} {xs : List Value} {w : World} (h : Sl A n c sz xs w) (o : Obj) : Sl A n c sz xs (w.alloc o) := by
  obtain ⟨h1, h2, h3⟩ := h
  refine ⟨h1, h2, fun h => ?_⟩
  obtain ⟨b, o, e, hr⟩ := h3 h
  exact ⟨b, o, e, fun j z hz => (Kp.al w _).cell (hr j z hz) trivial⟩
set_option maxRecDepth 100000 in
theorem rputtext_any (v : Value) (xs : By) (s : ByteArray) (hn : xs.length + s.size ≤ 140737488200000) (w : World) (h : Rb v xs w) :
    Calls Try.prog 39 #[v, .string s] w (OutB w (xs ++ encText s)) := by
  have H := hid h
  have hu : IntKind.u64.wrap (s.size : Int) = s.size := by rw [wrap64u]; omega
  have HN := hid hn
  clear h hn
  go_enter Try.func39, Try.ntmps39
  go_wp2_with fail
  refine (rput_any v xs s.size (by have := HN.out; omega) (by have := HN.out; omega) w H.out).mono ?_
  rintro e w3 ⟨⟨v3, rfl, h3⟩, k3⟩
  obtain ⟨A3, c3, rfl⟩ := own_shape h3
  have hl : (xs ++ enc s.size).length ≤ xs.length + 9 := by have := enc_len_le s.size; simp; omega
  obtain ⟨n3, hn3⟩ : ∃ n3, (xs ++ enc s.size).length = n3 := ⟨_, rfl⟩
  rw [hn3] at h3 hl
  rw [hn3]
  have H3 := hid h3
  have HN3 := hid hn3
  clear hn3
  have K3 := hid k3
  have HL := hid hl
  clear h3 k3 hl
  obtain ⟨i, hi, hz, hs, hby⟩ := info_parts el8.info
  go_wp2_with (at_builtin; go_loud (refine Lib.wpList_append_own_string _ rfl _ _ 54 9 rfl w.heap.size 5 i Try.underlying54 Try.underlying9 hi hz hs hby _ _ _ rfl H3.out s rfl ?_ ?_ K3.out.size ?_); (have h1 := HN.out; have h2 := HL.out; have h3 := max63; omega); (have h1 := HN.out; have h2 := HL.out; omega); intro v' w4 hown4 hg4 hnil4; obtain ⟨A4, c4', rfl⟩ := own_shape hown4; have HOW4 := hid hown4; have HG4 := hid hg4; clear hown4 hg4 hnil4)
  go_ret
  refine ⟨⟨_, rfl, ?_⟩, K3.out.then (Kp.grown HG4.out) (fun i hi hS e => by have := (H3.out.lt i e.symm).1; omega)⟩
  have := HOW4.out
  rw [strCells_u8s, ← u8s_append, List.append_assoc] at this
  have e : (xs ++ encText s).length = (xs ++ enc s.size).length + s.size := by
    simp [encText]
    omega
  rw [e, HN3.out]
  exact this
set_option maxRecDepth 100000 in
theorem rputbool_any (v : Value) (xs : By) (b : Bool) (hn : xs.length ≤ 140737488200000) (w : World) (h : Rb v xs w) :
    Calls Try.prog 55 #[v, .bool b] w (OutB w (xs ++ encBool b)) := by
  obtain ⟨A, c, rfl, h⟩ := h
  have H := hid h
  have HN := hid hn
  clear h hn
  cases b
  all_goals
    go_enter Try.func55, Try.ntmps55
    go_wp2_with (at_builtin; first | (refine wpList_app el8 (own_build0 (base := w.heap.size) (Nat.le_refl _)) (sl_alloc H.out _) (u8s_one xs) ?_ (by simp) rfl _ _ rfl rfl rfl ?_; (have := HN.out; omega); intro v' w2 hown2 hg2 hob2 hnil2; obtain ⟨A2, c2', rfl⟩ := own_shape hown2; rw [List.nil_append, Nat.zero_add] at hown2; have HOW := hid hown2; have HG2 := hid hg2; clear hown2 hg2 hob2 hnil2) | (go_loud (refine wpList_app el8 (HOW.out.alloc _) (sl_new1 _ _ _) (u8_one1 _ _) ?_ (Nat.le_trans (by simp) (Nat.le_trans HG2.out.size (by simp))) rfl _ _ rfl rfl rfl ?_); (have := HN.out; omega); intro v' w3 hown3 hg3 hob3 hnil3; obtain ⟨A3, c3, rfl⟩ := own_shape hown3; have HOW3 := hid hown3; have HG3 := hid hg3; clear hown3 hg3 hob3 hnil3))
    go_ret
    refine ⟨⟨_, rfl, ?_⟩, ?_⟩
    · rw [u8s_append, List.length_append]
      exact HOW3.out
    · have hk : Kp All w w2 := ((Kp.refl All w).alloc (.cells #[] 5)).then (Kp.grown HG2.out) (fun i hi _ => by simp [Value.ownBlock]; omega)
      exact (hk.alloc _).then (Kp.grown HG3.out) (fun i hi _ e => by have := (HOW.out.lt i e.symm).1; omega)
end Go.Proofs.Ytkipijdbkkcioaa
