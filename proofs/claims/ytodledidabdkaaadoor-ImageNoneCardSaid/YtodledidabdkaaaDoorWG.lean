/- image.Pairs walked: a map's pairs by keys. No condition. -/
import Derived.Test.YtodledidabdkaaaDoorWD
namespace Go.Proofs.YtodledidabdkaaaDoor
open Go.RowKit Go.Shelf V
set_option linter.unusedVariables false
set_option linter.unusedSimpArgs false
attribute [local go_sem] Oper.semAt_some
theorem wall_any (po : Option Nat) (w : World) : Calls Tryd.prog 23 #[mV po] w fun e w' => e = .returned (.func (.func 43) #[] #[.pointer (some ⟨w.heap.size, 0, none⟩)]) ∧ w' = w.alloc (.cells #[mV po] 24 (0, 0)) := by
  have hmv : ∃ x, mV po = .pointer x := ⟨_, rfl⟩
  obtain ⟨x, hx⟩ := hmv
  rw [hx]
  go_enter Tryd.func23, Tryd.ntmps23
  go_wp2_with fail
  go_ret
  exact ⟨rfl, rfl⟩
theorem pair_info : (Tryd.prog.info? 42).map (fun i => (i.zero, i.size, i.bytes)) = some (some (.agg #[.string ByteArray.empty, .string ByteArray.empty]), 2, 32) := by kernel_rfl
theorem cell_two_new (w : World) (a b : Value) (t : TypeId) : ∀ (j : Nat) (u : Value), [a, b][j]? = some u → (w.alloc (.cells #[a, b] t)).cell? ((⟨w.heap.size, 0, none⟩ : Addr).add j) = some u := by
  intro j u h
  rw [Addr.add_lit, blk_cell (blk_new w _)]
  simpa using h
def Hid2 (p : Prop) : Prop := p
theorem hid2 {p : Prop} (h : Hid2 p) : p := h
theorem unhid2 {p : Prop} (h : p) : Hid2 p := h
def PrI (w : World) (pre : List Slot) (W : World) : Prop := (∃ v, Boxed W w.heap.size 29 v ∧ W.ownsRow w.heap.size 42 2 v pre.length (scs pre)) ∧ Below w.heap.size w W
theorem prI_own (w : World) (base : Nat) (hb : w.heap.size ≤ base) : OwnX w.heap.size base (PrI w) := by
  rintro pre X Y row ⟨⟨v, hv, hr⟩, hB⟩ hg hrow
  refine ⟨⟨v, hv.kept hg ?_, hr.kept hg ?_⟩, hB.grown hg hB.size fun k e => ?_⟩
  · intro e
    obtain ⟨_, o, ho, h | h⟩ := hrow _ e.symm
    · rw [show X.heap[w.heap.size]? = _ from hv] at ho
      cases ho; cases h
    · exact h (.inl rfl)
  · rcases own_at hr with ⟨rfl, _⟩ | ⟨g, cap, cur, rfl, hgb, _⟩
    · exact .inl rfl
    · refine .inr fun e => ?_
      obtain ⟨_, o, ho, h | h⟩ := hrow g e.symm
      · rw [hgb] at ho
        cases ho; cases h
      · exact h (.inr ⟨_, _, _, _, _, hv, rfl⟩)
  · have := (hrow k e).1
    omega
/-- a new row of pairs -/
def PairsR (l : List Slot) (w : World) (e : Ending) (w' : World) : Prop := ∃ v, e = .returned v ∧ w'.ownsRow w.heap.size 42 2 v l.length (scs l) ∧ Kp All w w'
def SortsP : Prop := ∀ (base : Nat) (v : Value) (l : List Slot), l.length ≤ 3000 → ∀ w : World, w.ownsRow base 42 2 v l.length (scs l) →
    Calls Tryd.prog 24 #[v, .func (.func 25) #[] #[]] w fun e w' => e = .returned (.tuple #[]) ∧ ∃ m : List Slot, m.Perm l ∧ (m.Pairwise fun a b => ¬ bl b.1 < bl a.1) ∧ w'.ownsRow base 42 2 v m.length (scs m) ∧ w.grownBy w' v.ownBlock
set_option maxRecDepth 100000 in
set_option maxHeartbeats 2000000 in
theorem ipairs_of (hsort : SortsP) (k0 k1 : Nat) (po : Option Nat) (M : Mp) (O : Nat → Prop) (w : World) (h : Lo k0 k1 po M O w) : Calls Tryd.prog 8 #[mV po] w (PairsR (pairsP M) w) := by
  refine (callsIn_wide (n := 8)).1 ?_
  have HALL := hid (fun w => callsIn_wide (n := 7).2 (wall_any po w))
  have hmv : ∃ x, mV po = .pointer x := ⟨_, rfl⟩
  obtain ⟨xm, hx⟩ := hmv
  refine callsIn_of_wp_marks Tryd.func8 rfl trivial ?_ rfl
  simp only [Tryd.ntmps8, List.size_toArray, List.length_cons, List.length_nil, Nat.reduceAdd, Nat.reduceSub, Array.replicate_succ, Array.replicate_zero, List.push_toArray, List.append_toArray, List.nil_append, List.cons_append]
  have bO := Boxed.new w 29 (.slice none 0 0)
  have kk1 := Kp.al w (.cells #[.slice none 0 0] 29)
  have hf1 : Fence.wide.fn 23 := trivial
  rw [hx] at HALL
  rw [hx]
  gi_wp2_with (gi_at_call 23; refine (HALL.out _).mono ?_; rintro e w2 ⟨rfl, rfl⟩)
  obtain ⟨w2, hw2⟩ : ∃ w2, (w.alloc (Obj.cells #[Value.slice none 0 0] 29)).alloc (Obj.cells #[Value.pointer xm] 24) = w2 := ⟨_, rfl⟩
  have k2 : Kp All w w2 := hw2 ▸ kk1.trans (Kp.al _ _)
  have bO2 : Boxed w2 w.heap.size 29 (.slice none 0 0) := hw2 ▸ bO.alloc _
  have bM : w2.heap[w.heap.size + 1]? = some (.cells #[mV po] 24 (0, 0)) := by
    rw [← hw2, hx]
    have := World.alloc_heap_new (w.alloc (Obj.cells #[Value.slice none 0 0] 29)) (Obj.cells #[Value.pointer xm] 24)
    rwa [World.size_alloc] at this
  have z2 : w2.heap.size = w.heap.size + 2 := by rw [← hw2]; simp
  have hBw : Below w.heap.size w w2 := by rw [← hw2]; exact ((Below.refl _ w).alloc (Nat.le_refl _) _).alloc (by simp) _
  rw [hw2]
  refine range_own2 (α := Slot) (n := 8) (by omega) (gf := 43) (lb := #[.pointer (some ⟨w.heap.size + 1, 0, none⟩)]) rfl (enters_of Tryd.func43 (by kernel_rfl) rfl) (encs := slA) (fun _ => rfl) w.heap.size 2000 (by omega)
    (fun xs W0 W' => xs = fullP M) (fun _ _ _ _ h k => h)
    (fun l J W hW hJ hJp hY h0 => ?_)
    (PrI w) (prI_own w _ (by omega))
    (fun pre W' ⟨⟨v, h1, h2⟩, _⟩ => pv_lt h1 h2)
    ⟨⟨_, bO2, World.ownsRow_nil _ _ _ _⟩, hBw⟩
    (fun y => { tmps := #[.pointer xm, undef, .slice none 0 0, .pointer (some ⟨w.heap.size, 0, none⟩), .string y.1, .string y.2, .pointer xm, .func (.func 43) #[] #[.pointer (some ⟨w.heap.size + 1, 0, none⟩)], .string y.1, .string y.2, undef, undef, undef, undef, undef, undef, undef, undef, undef], defers := [] }) ?assign ?body ?done
  · refine (all1_in 7 (by omega) l w.heap.size (w.heap.size + 1) k0 k1 po M O J W hJ (by have := hW.size; omega) hJp hY (hW.heap bM trivial) (h.all (k2.trans hW)) ?_ h0).mono (fun e W' h => h)
    rintro b hb (e | ⟨_, _, _, _, _, e, _⟩)
    · have := h.lt b hb; omega
    · rw [hW.heap bO2 trivial] at e
      cases e
  case assign =>
    intro l k y W K hK
    unfold slA
    gi_wp2
    exact hK
  case body =>
    rintro l k pre ⟨yk, yv⟩ W ⟨⟨v, hv, hrow⟩, hB⟩ hlt
    obtain ⟨VA', vc', rfl⟩ := own_shape hrow
    have hc := hv.cell
    have hf := hv.frozen
    obtain ⟨i0, hi, hz0, hz1, hz2⟩ := info_parts pair_info
    have h63 : (9223372036854775807 : Nat) ≤ maxLen := by decide
    dsimp only
    gi_wp2_with (gi_at_builtin; refine hid2 ?_)
    unfold Hid2
    refine append_at _ rfl _ _ 29 rfl w.heap.size 42 i0 (.agg #[.string ByteArray.empty, .string ByteArray.empty]) 2 32 Tryd.underlying29 hi hz0 hz1 hz2 rfl (by decide) _ _ _ rfl (hrow.alloc _) ⟨W.heap.size, 0, none⟩ 1 1 [.string yk, .string yv] rfl rfl (cell_two_new _ _ _ _) (by simp [Value.oneCell']) (by omega) (by omega) (by have := hB.size; simp; omega) ?_
    intro v' w1 hown' hgrow hor0
    have HOR := hid hor0
    clear hor0
    have HGR := hid hgrow
    obtain ⟨g', cap', rfl⟩ := ownsRow_succ hown'
    obtain ⟨hv1, hv2, hr2, hk2, hb2⟩ := hv.appended (by decide) hrow hB.size (Nat.le_refl _) hown' hgrow
    have hc1 := hv1.cell
    have hf1 := hv1.frozen
    gi_wp2
    exact ⟨hk2.from _, rk_append hv HGR.out HOR.out hv2, ⟨_, hv2, by simpa [scs] using hr2⟩, hB.trans hb2⟩
  case done =>
    rintro D xs W0 W hD hW0 ⟨⟨v, hv, hrow⟩, hB⟩ hxs hK
    have hc := hv.cell
    have hlx : xs.length ≤ 3000 := by have := lo_len h; rw [← hxs] at this; omega
    subst hxs
    have HS0 := callsIn_wide (n := 7).2 (hsort _ _ _ hlx W hrow)
    have hte : (29 : Nat) ≠ 42 := by decide
    have hnr := hv.not_row hte hrow
    obtain ⟨VA', vc', rfl⟩ := own_shape hrow
    have hf2 : Fence.wide.fn 24 := trivial
    have HS := hid HS0
    have HR := hid hrow
    have HX := hid (And.intro hB (And.intro hnr (And.intro hv hK)))
    have hgb : ∀ b, (Value.slice VA' (fullP M).length vc').ownBlock = some b → w.heap.size ≤ b ∧ b ≠ D := by
      intro b e
      rcases own_at hrow with ⟨e1, _⟩ | ⟨g, cap, cur, e1, hg1, hg2, _⟩
      · rw [e1] at e; cases e
      · rw [e1] at e
        injection e with e
        have e : g = b := e
        subst e
        refine ⟨hg2, fun e => ?_⟩
        rw [e, hK] at hg1
        cases hg1
    have HG := hid hgb
    have HD := hid (And.intro hD (show w2.heap.size = w.heap.size + 2 from z2))
    clear hgb HS0 hlx hrow hB hnr hv hK hD hW0
    gi_wp2_with fail
    refine HS.out.mono ?_
    rintro e W2 ⟨rfl, m, hpm, hms, hr2, hg2⟩
    have hv2 := HX.out.2.2.1.kept hg2 HX.out.2.1
    have hc2 := hv2.cell
    have HM := hid (And.intro hpm (And.intro hms (And.intro hr2 (And.intro hg2 hv2))))
    clear hpm hms hr2 hg2 hv2
    gi_wp2
    have hD2 : w.heap.size ≤ D := by have := HD.out.1; have := HD.out.2; omega
    have hDW := (Array.getElem?_eq_some_iff.1 HX.out.2.2.2).1
    have hK2 : W2.heap[D]? = some (.deferred (some [])) := (HM.out.2.2.2.1.block D hDW (fun e => (HG.out D e.symm).2 rfl)).trans HX.out.2.2.2
    have hB2 : Below w.heap.size w W2 := HX.out.1.grown HM.out.2.2.2.1 HX.out.1.size (fun k e => (HG.out k e).1)
    have hm : m = pairsP M := by
      cases po with
      | none =>
        have h0 := h.1
        have hp := HM.out.1
        rw [h0] at hp
        unfold pairsP
        rw [hp.eq_nil, h0]
        exact (List.mergeSort_nil).symm
      | some bm =>
        have h : Lm k0 k1 bm M O w := h
        exact pairs_sort h.inv (List.Perm.refl _) HM.out.1 HM.out.2.1
    have hr3 := HM.out.2.2.1
    have hml : m.length = (fullP M).length := HM.out.1.length_eq
    refine ⟨by simp, .inl ⟨_, _, rfl, run_takeDeferred hK2, ?_⟩⟩
    refine ⟨_, results_tmp rfl _ _ _, _, rfl, ?_, Kp.of_below (hB2.trans (belowK_b (w := w) (Nat.le_refl _) W2 D _ _ hD2 hK2 rfl rfl)) (Nat.le_refl _)⟩
    rw [← hm]
    exact ownsRow_putObj hr3 _ hK2 rfl
end Go.Proofs.YtodledidabdkaaaDoor
