/- The map's Keys walked. No condition but that the map lies, or is none. -/
import Derived.Test.YtodledidabdkaaaDoorWA
namespace Go.Proofs.YtodledidabdkaaaDoor
open Go.RowKit Go.Shelf V
set_option linter.unusedVariables false
set_option linter.unusedSimpArgs false
def mV (po : Option Nat) : Value := .pointer (po.map fun b => ⟨b, 0, none⟩)
/-- A map lies, or is none. -/
def Lo (k0 k1 : Nat) : Option Nat → Mp → (Nat → Prop) → World → Prop
  | none, M, O, _ => M = ⟨[], []⟩ ∧ ∀ b, ¬ O b
  | some bm, M, O, w => Lm k0 k1 bm M O w
theorem Lo.kept {k0 k1 : Nat} {po : Option Nat} {M : Mp} {O S : Nat → Prop} {w w' : World} (h : Lo k0 k1 po M O w) (k : Kp S w w') (hS : ∀ b, O b → S b) : Lo k0 k1 po M O w' := by
  cases po with
  | none => exact h
  | some bm => exact Lm.kept h k hS
theorem Lo.all {k0 k1 : Nat} {po : Option Nat} {M : Mp} {O : Nat → Prop} {w w' : World} (h : Lo k0 k1 po M O w) (k : Kp All w w') : Lo k0 k1 po M O w' := h.kept k (fun _ _ => trivial)
theorem Lo.lt {k0 k1 : Nat} {po : Option Nat} {M : Mp} {O : Nat → Prop} {w : World} (h : Lo k0 k1 po M O w) : ∀ b, O b → b < w.heap.size := by
  cases po with
  | none => exact fun b hb => absurd hb (h.2 b)
  | some bm => exact Lm.lt h
theorem elS : El Tryd.prog 111 9 1 16 (.string ⟨#[]⟩) := ⟨Tryd.underlying111, by kernel_rfl, rfl, by decide, by decide⟩
def strs (l : List Tx) : List Value := l.map Value.string
theorem sl_one {w : World} {m : Nat} (hm : m = w.heap.size) (a : Value) (t : TypeId) : Sl (some ⟨m, 0, none⟩) 1 1 1 [a] (w.alloc (.cells #[a] t)) := by
  subst hm
  exact sl_new1 w a t
theorem own_mono {w : World} {base base' e sz n : Nat} {v : Value} {xs : List Value} (h : w.ownsRow base e sz v n xs) (hb : base' ≤ base) : w.ownsRow base' e sz v n xs := by
  refine ⟨h.1, ?_⟩
  rcases h.2 with hn | ⟨g, cap, cur, e1, e2, rest⟩
  · exact .inl hn
  · exact .inr ⟨g, cap, cur, e1, Nat.le_trans hb e2, rest⟩
def KeysR (ks : List Tx) (w : World) (e : Ending) (w' : World) : Prop := ∃ v, e = .returned v ∧ w'.ownsRow w.heap.size 9 1 v ks.length (strs ks) ∧ Kp All w w'
def keysP (M : Mp) : List Tx := (fullP M).map (·.1)
theorem lo_len {k0 k1 : Nat} {po : Option Nat} {M : Mp} {O : Nat → Prop} {w : World} (h : Lo k0 k1 po M O w) : (fullP M).length ≤ 2000 := by
  cases po with
  | none =>
    rw [h.1]
    exact Nat.zero_le _
  | some bm =>
    have h : Lm k0 k1 bm M O w := h
    rw [full_len h.inv.slen]
    exact h.inv.most
theorem str_one (s : Tx) : ∀ u ∈ [Value.string s], u.oneCell' = true := by
  intro u hu
  simp at hu
  subst hu
  rfl
set_option maxRecDepth 100000 in
set_option maxHeartbeats 2000000 in
theorem mkeys_any (k0 k1 : Nat) (po : Option Nat) (M : Mp) (O : Nat → Prop) (w : World) (h : Lo k0 k1 po M O w) : Calls Tryd.prog 67 #[mV po] w (KeysR (keysP M) w) := by
  have hlen := lo_len h
  cases po with
  | none =>
    rw [show keysP M = [] from by rw [h.1]; rfl]
    have HR0 := hid (World.ownsRow_nil w w.heap.size 9 1)
    unfold mV
    simp only [Option.map_none]
    go_enter Tryd.func67, Tryd.ntmps67
    go_wp2_with fail
    refine (mmade_nil _).mono ?_
    rintro e w1 ⟨rfl, hw⟩
    have hw := hw.symm
    subst hw
    go_wp2_with fail
    go_ret
    exact ⟨_, rfl, HR0.out, Kp.refl _ _⟩
  | some bm =>
    have h : Lm k0 k1 bm M O w := h
    obtain ⟨bw, cw, bs, cs, hm, hO⟩ := h.ms
    have hP := h.inv.pm
    have HMADE := hid (mmade_yes hP.g1.1 w hm)
    have HFULL := hid (mfull_any k0 k1 bm bw cw bs cs M hP w hm)
    obtain ⟨L, hL⟩ : ∃ L, fullP M = L := ⟨_, rfl⟩
    unfold keysP
    rw [hL] at HFULL hlen ⊢
    unfold mV
    simp only [Option.map_some]
    clear hm hO hP hL h
    go_enter Tryd.func67, Tryd.ntmps67
    go_wp2_with fail
    refine HMADE.out.mono ?_
    rintro e w1 ⟨rfl, hw⟩
    have hw := hw.symm
    subst hw
    go_wp2_with fail
    refine HFULL.out.mono ?_
    rintro e w2 ⟨v, rfl, hown, hk⟩
    obtain ⟨VA, vc, rfl⟩ := own_shape hown
    have HOW := hid hown; have HK := hid hk
    have HR0 := hid (World.ownsRow_nil w2 w.heap.size 9 1)
    obtain ⟨N, hN⟩ : ∃ N, L.length = N := ⟨_, rfl⟩
    rw [hN] at HOW hlen
    have HN := hid hN
    rw [hN]
    clear hown hk hN
    go_wp2_with fail
    go_loopw [3, 11] (fun l i wr => ∃ j : Nat, j ≤ N ∧ i = .int .i64 j ∧ Hid (wr.ownsRow w2.heap.size 9 1 l ((L.take j).map (·.1)).length (strs ((L.take j).map (·.1)))) ∧ Hid (Kp All w2 wr)) (fun _ i _ => N - (ivl i).toNat)
    case atStart => exact ⟨0, Nat.zero_le _, rfl, hid (World.ownsRow_nil w2 w2.heap.size 9 1), hid (Kp.refl _ _)⟩
    case round =>
      obtain ⟨j, hj, rfl, HR, HKR⟩ := hrel
      by_cases hlt : j < N
      · have d1 : decide ((j : Int) < (N : Int)) = true := decide_eq_true (by omega)
        obtain ⟨s, hs⟩ : ∃ s, L[j]? = some s := ⟨_, List.getElem?_eq_getElem (by rw [HN.out]; exact hlt)⟩
        rcases own_at HOW.out with ⟨e, _, _⟩ | ⟨gb, cap, cur, e, hgb, hgw, hat⟩
        · injection e with _ e _; omega
        injection e with e _ ec
        subst e ec
        obtain ⟨t1, t2⟩ := scs_get hs
        have r1 := HKR.out.cell (hat _ _ t1) trivial
        have r2 := HKR.out.cell (hat _ _ t2) trivial
        have q0 : (0 : Int) ≤ (j : Int) := by omega
        have q1 : (j : Int) < (N : Int) := by omega
        have HT : Hid (strs ((L.take (j + 1)).map (·.1)) = strs ((L.take j).map (·.1)) ++ [.string s.1] ∧ ((L.take (j + 1)).map (·.1)).length = ((L.take j).map (·.1)).length + 1) := hid (by
          rw [List.take_add_one, hs]
          simp [strs])
        have hlj : ((L.take j).map (·.1)).length = j := by rw [List.length_map, List.length_take, HN.out]; omega
        obtain ⟨s1, s2⟩ := s
        simp only at r1 r2
        obtain ⟨LA, lc, rfl⟩ := own_shape HR.out
        rw [hlj] at HR
        rw [hlj]
        have hb2 := HKR.out.size
        clear hs t1 t2 hat hgb hgw
        go_wp2_with (at_builtin; go_loud (refine wpList_app elS (World.ownsRow.alloc (World.ownsRow.alloc HR.out _) _) (sl_one (m := wr.heap.size + 1) (by simp) _ _) (str_one s1) ?_ (by have := HKR.out.size; simp; omega) rfl _ _ rfl rfl rfl ?_); (omega); intro v' w5 hown5 hg5 hob5 hnil5; have HO5 := hid hown5; have HG5 := hid hg5; clear hown5 hg5 hob5 hnil5)
        obtain ⟨A5, c5, rfl⟩ := own_shape HO5.out
        have hk5 : Kp All w2 w5 := ((HKR.out.alloc _).alloc _).then (Kp.grown HG5.out) (fun b hb _ e => by have := (HR.out.lt b e.symm).1; omega)
        have HK5 := hid hk5
        have HR5 : Hid (w5.ownsRow w2.heap.size 9 1 (.slice A5 (j + 1) c5) ((L.take (j + 1)).map (·.1)).length (strs ((L.take (j + 1)).map (·.1)))) := hid (by
          rw [HT.out.1, HT.out.2, hlj]
          exact HO5.out)
        clear hk5
        exact ⟨⟨j + 1, by omega, by go_num, HR5, HK5⟩, by simp [ivl]; omega⟩
      · have d1 : decide ((j : Int) < (N : Int)) = false := decide_eq_false (by omega)
        obtain rfl : j = N := by omega
        go_wp2_with fail
        go_ret
        have := HR.out
        rw [List.take_of_length_le (by rw [HN.out]; exact Nat.le_refl _)] at this
        exact ⟨_, rfl, own_mono this HK.out.size, HK.out.trans HKR.out⟩
end Go.Proofs.YtodledidabdkaaaDoor
