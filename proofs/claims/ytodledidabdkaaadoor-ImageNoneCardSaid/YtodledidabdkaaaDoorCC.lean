/- The codec's writers over rows: Put, text, PutText, PutBool: walked once each. No condition but that the numbers are of their kinds, and the rows not great. -/
import Derived.Test.YtodledidabdkaaaDoorCB
namespace Go.Proofs.YtodledidabdkaaaDoor
open Go.RowKit
set_option linter.unusedVariables false
set_option linter.unusedSimpArgs false
/-- v is a slice of these bytes. -/
def Rb (v : Value) (xs : By) (w : World) : Prop := ∃ A c, v = .slice A xs.length c ∧ Sl A xs.length c 1 (u8s xs) w
theorem own_rb {w : World} {base e : Nat} {v : Value} {xs : By} (h : w.ownsRow base e 1 v xs.length (u8s xs)) : Rb v xs w := by
  obtain ⟨A, c, rfl⟩ := own_shape h
  refine ⟨A, c, rfl, ?_⟩
  have := (own_sl h (Nat.le_refl _)).1
  rwa [List.take_of_length_le (by simp)] at this
theorem rb_nil (w : World) : Rb (.slice none 0 0) [] w := ⟨none, 0, rfl, rfl, Nat.le_refl _, fun h => absurd h (by simp)⟩
def OutB (w : World) (xs : By) (e : Ending) (w' : World) : Prop := (∃ v, e = .returned v ∧ w'.ownsRow w.heap.size 5 1 v xs.length (u8s xs)) ∧ Kp All w w'
theorem strCells_u8s (s : ByteArray) : Lib.strCells s = u8s s.data.toList := rfl
theorem max63 : (9223372036854775807 : Nat) ≤ maxLen := by decide
theorem kp_base {w w' : World} (h : Kp (fun b => b < w.heap.size) w w') : Kp All w w' := h.mono fun _ hk _ => hk
set_option maxRecDepth 100000 in
theorem put_any (v : Value) (xs : By) (u : Nat) (hu : u < 2 ^ 64) (hn : xs.length ≤ 140737488300000) (w : World) (h : Rb v xs w) :
    Calls Tryd.prog 29 #[v, .int .u64 u] w (OutB w (xs ++ enc u)) := by
  obtain ⟨A, c, rfl, h⟩ := h
  have H := hid h
  have HU := hid hu
  have HN := hid hn
  clear h hu hn
  go_enter Tryd.func29, Tryd.ntmps29
  go_wp2_with (at_builtin; go_loud (refine wpList_app el8 (World.ownsRow_nil w w.heap.size 5 1) H.out (u8s_one xs) ?_ (Nat.le_refl _) rfl _ _ rfl rfl rfl ?_); (have := HN.out; omega); intro v' w2 hown2 hg2 hob2 hnil2; obtain ⟨A2, c2', rfl⟩ := own_shape hown2; have HOW := hid hown2; have HG2 := hid hg2; clear hown2 hg2 hob2 hnil2)
  have hrow := HOW.out
  rw [List.nil_append, Nat.zero_add] at hrow
  have hk : Kp All w w2 := (Kp.refl _ w).then (Kp.grown HG2.out) (fun i hi _ e => by simp [Value.ownBlock] at e)
  refine (put0_any w.heap.size _ xs u HU.out HN.out w2 hrow hk.size).mono ?_
  rintro e w3 ⟨⟨v3, rfl, h3⟩, k3⟩
  obtain ⟨A3, c3, rfl⟩ := own_shape h3
  obtain ⟨n3, hn3⟩ : ∃ n3, (xs ++ enc u).length = n3 := ⟨_, rfl⟩
  rw [hn3] at h3
  rw [hn3]
  have H3 := hid h3
  have HN3 := hid hn3
  clear hn3
  have K3 := hid (hk.then k3 (fun i hi _ => hi))
  clear hrow hk h3 k3
  go_wp2_with fail
  go_ret
  exact ⟨⟨_, rfl, by rw [HN3.out]; exact H3.out⟩, K3.out⟩
set_option maxRecDepth 100000 in
theorem text0_any (base : Nat) (v : Value) (xs : By) (s : ByteArray) (hn : xs.length + s.size ≤ 140737488200000) (w : World) (h : w.ownsRow base 5 1 v xs.length (u8s xs)) (hb : base ≤ w.heap.size) :
    Calls Tryd.prog 51 #[v, .string s] w fun e w' => (∃ v', e = .returned v' ∧ w'.ownsRow base 5 1 v' (xs ++ encText s).length (u8s (xs ++ encText s))) ∧ Kp (fun b => b < base) w w' := by
  obtain ⟨A, c, rfl⟩ := own_shape h
  have H := hid h
  have HB := hid hb
  have hu : IntKind.u64.wrap (s.size : Int) = s.size := by rw [wrap64u]; omega
  have HN := hid hn
  clear h hn hb
  go_enter Tryd.func51, Tryd.ntmps51
  go_wp2_with fail
  refine (put0_any base _ xs s.size (by have := HN.out; omega) (by have := HN.out; omega) w H.out HB.out).mono ?_
  rintro e w3 ⟨⟨v3, rfl, h3⟩, k3⟩
  obtain ⟨A3, c3, rfl⟩ := own_shape h3
  have hl : (xs ++ enc s.size).length ≤ xs.length + 9 := by have := enc_len_le s.size; simp; omega
  obtain ⟨n3, hn3⟩ : ∃ n3, (xs ++ enc s.size).length = n3 := ⟨_, rfl⟩
  rw [hn3] at h3 hl
  rw [hn3]
  have H3 := hid h3
  have HN3 := hid hn3
  clear hn3
  have K3 := hid k3
  have HL := hid hl
  clear h3 k3 hl
  obtain ⟨i, hi, hz, hs, hby⟩ := info_parts el8.info
  go_wp2_with (at_builtin; go_loud (refine Lib.wpList_append_own_string _ rfl _ _ 33 9 rfl base 5 i Tryd.underlying33 Tryd.underlying9 hi hz hs hby _ _ _ rfl H3.out s rfl ?_ ?_ (Nat.le_trans HB.out K3.out.size) ?_); (have h1 := HN.out; have h2 := HL.out; have h3 := max63; omega); (have h1 := HN.out; have h2 := HL.out; omega); intro v' w4 hown4 hg4 hnil4; obtain ⟨A4, c4', rfl⟩ := own_shape hown4; have HOW4 := hid hown4; have HG4 := hid hg4; clear hown4 hg4 hnil4)
  go_ret
  refine ⟨⟨_, rfl, ?_⟩, K3.out.then (Kp.grown HG4.out) (fun i hi hS e => by have := (H3.out.lt i e.symm).1; omega)⟩
  have := HOW4.out
  rw [strCells_u8s, ← u8s_append, List.append_assoc] at this
  have e : (xs ++ encText s).length = (xs ++ enc s.size).length + s.size := by
    simp [encText]
    omega
  rw [e, HN3.out]
  exact this
set_option maxRecDepth 100000 in
theorem puttext_any (v : Value) (xs : By) (s : ByteArray) (hn : xs.length + s.size ≤ 140737488200000) (w : World) (h : Rb v xs w) :
    Calls Tryd.prog 30 #[v, .string s] w (OutB w (xs ++ encText s)) := by
  obtain ⟨A, c, rfl, h⟩ := h
  have H := hid h
  have HN := hid hn
  clear h hn
  go_enter Tryd.func30, Tryd.ntmps30
  go_wp2_with (at_builtin; go_loud (refine wpList_app el8 (World.ownsRow_nil w w.heap.size 5 1) H.out (u8s_one xs) ?_ (Nat.le_refl _) rfl _ _ rfl rfl rfl ?_); (have := HN.out; omega); intro v' w2 hown2 hg2 hob2 hnil2; obtain ⟨A2, c2', rfl⟩ := own_shape hown2; have HOW := hid hown2; have HG2 := hid hg2; clear hown2 hg2 hob2 hnil2)
  have hrow := HOW.out
  rw [List.nil_append, Nat.zero_add] at hrow
  have hk : Kp All w w2 := (Kp.refl _ w).then (Kp.grown HG2.out) (fun i hi _ e => by simp [Value.ownBlock] at e)
  refine (text0_any w.heap.size _ xs s HN.out w2 hrow hk.size).mono ?_
  rintro e w3 ⟨⟨v3, rfl, h3⟩, k3⟩
  obtain ⟨A3, c3, rfl⟩ := own_shape h3
  obtain ⟨n3, hn3⟩ : ∃ n3, (xs ++ encText s).length = n3 := ⟨_, rfl⟩
  rw [hn3] at h3
  rw [hn3]
  have H3 := hid h3
  have HN3 := hid hn3
  clear hn3
  have K3 := hid (hk.then k3 (fun i hi _ => hi))
  clear hrow hk h3 k3
  go_wp2_with fail
  go_ret
  exact ⟨⟨_, rfl, by rw [HN3.out]; exact H3.out⟩, K3.out⟩
end Go.Proofs.YtodledidabdkaaaDoor
