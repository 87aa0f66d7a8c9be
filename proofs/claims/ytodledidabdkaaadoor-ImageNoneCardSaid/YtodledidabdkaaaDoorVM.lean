/- The map of groups in memory. No condition. -/
import Derived.Test.YtodledidabdkaaaDoorVP
import Derived.Test.YtodledidabdkaaaDoorVE
import Derived.RangeFuncCalls
import Derived.Sort.QuietTacIn
namespace Go.Proofs.YtodledidabdkaaaDoor
open Go.RowKit Go.Shelf V
set_option linter.unusedVariables false
set_option linter.unusedSimpArgs false
attribute [local go_sem] Oper.semAt_some
def wcs (c : List Nat) : List Value := (List.range (c.length / 8)).map fun q => .int .u64 (wd (grp c q))
def scs (l : List Slot) : List Value := l.flatMap fun s => [.string s.1, .string s.2]
theorem wcs_get {c : List Nat} {q : Nat} (h : q < c.length / 8) : (wcs c)[q]? = some (.int .u64 (wd (grp c q))) := by
  unfold wcs
  simp [h]
theorem wcs_len (c : List Nat) : (wcs c).length = c.length / 8 := by simp [wcs]
theorem scs_len : ∀ l : List Slot, (scs l).length = l.length * 2
  | [] => rfl
  | s :: r => by
    have := scs_len r
    simp only [scs, List.flatMap_cons, List.length_append, List.length_cons, List.length_nil] at this ⊢
    omega
theorem scs_get : ∀ {l : List Slot} {i : Nat} {s : Slot}, l[i]? = some s → (scs l)[i * 2]? = some (.string s.1) ∧ (scs l)[i * 2 + 1]? = some (.string s.2)
  | [], i, s, h => by simp at h
  | x :: r, 0, s, h => by
    simp only [List.getElem?_cons_zero, Option.some.injEq] at h
    subst h
    simp [scs]
  | x :: r, i + 1, s, h => by
    obtain ⟨h1, h2⟩ := scs_get (l := r) (i := i) (s := s) (by simpa using h)
    simp only [scs, List.flatMap_cons] at h1 h2 ⊢
    rw [show (i + 1) * 2 = i * 2 + 2 from by omega]
    simp only [List.cons_append, List.nil_append, List.getElem?_cons_succ]
    exact ⟨h1, h2⟩
theorem grp_set_self {c : List Nat} {q j x : Nat} (hj : j < 8) : grp (c.set (8 * q + j) x) q = (grp c q).set j x := by
  unfold grp
  rw [List.drop_set, if_neg (by omega), List.take_set, show 8 * q + j - 8 * q = j from by omega]
theorem grp_set_oth {c : List Nat} {p q j x : Nat} (hj : j < 8) (hp : p ≠ q) : grp (c.set (8 * q + j) x) p = grp c p := by
  apply List.ext_getElem?
  intro i
  by_cases hi : i < 8
  · rw [grp_get hi, grp_get hi, List.getElem?_set_ne (by omega)]
  · unfold grp
    rw [List.getElem?_take, List.getElem?_take, if_neg hi, if_neg hi]
theorem wcs_set {c : List Nat} {q j x : Nat} (hj : j < 8) (hq : q < c.length / 8) : wcs (c.set (8 * q + j) x) = (wcs c).set q (.int .u64 (wd ((grp c q).set j x))) := by
  apply List.ext_getElem?
  intro p
  by_cases hp : p < c.length / 8
  · rw [wcs_get (by simpa using hp)]
    by_cases e : p = q
    · subst e
      rw [List.getElem?_set_self (by rw [wcs_len]; exact hp), grp_set_self hj]
    · rw [List.getElem?_set_ne (Ne.symm e), wcs_get hp, grp_set_oth hj e]
  · rw [List.getElem?_eq_none (by rw [wcs_len]; simpa using hp), List.getElem?_eq_none (by rw [List.length_set, wcs_len]; omega)]
theorem scs_set : ∀ (l : List Slot) (i : Nat) (s : Slot), scs (l.set i s) = ((scs l).set (i * 2) (.string s.1)).set (i * 2 + 1) (.string s.2)
  | [], i, s => by simp [scs]
  | y :: l, 0, s => by simp [scs]
  | y :: l, i + 1, s => by
    have := scs_set l i s
    simp only [scs, List.set_cons_succ, List.flatMap_cons] at this ⊢
    rw [this, show (i + 1) * 2 = i * 2 + 2 from by omega]
    simp
/-- A map of g groups lies, its numbers as they stand: its struct in block bm, its words in bw, its slots in bs. -/
structure Mr (k0 k1 bm bw cw bs cs g : Nat) (c : List Nat) (l : List Slot) (n t : Int) (w : World) : Prop where
  str : w.heap[bm]? = some (.cells #[.int .u64 k0, .int .u64 k1, .slice (some ⟨bw, 0, none⟩) g cw, .slice (some ⟨bs, 0, none⟩) (8 * g) cs, .int .i64 n, .int .i64 t] 74 (0, 0))
  wds : ∃ cur, w.heap[bw]? = some (.cells cur 26 (0, 0)) ∧ cur.size = cw ∧ cur.toList.take g = wcs c
  sls : ∃ cur, w.heap[bs]? = some (.cells cur 70 (0, 0)) ∧ cur.size = cs * 2 ∧ cur.toList.take (8 * g * 2) = scs l
  cwl : g ≤ cw
  csl : 8 * g ≤ cs
  cwm : cw ≤ 9223372036854775807
  csm : cs ≤ 9223372036854775807
  d1 : bm ≠ bw
  d2 : bm ≠ bs
  d3 : bw ≠ bs
  z1 : bm ≠ 0
  z2 : bw ≠ 0
  z3 : bs ≠ 0
section
variable {k0 k1 bm bw cw bs cs g : Nat} {c : List Nat} {l : List Slot} {n t : Int} {w w' : World}
theorem Mr.kept {S : Nat → Prop} (h : Mr k0 k1 bm bw cw bs cs g c l n t w) (k : Kp S w w') (h1 : S bm) (h2 : S bw) (h3 : S bs) : Mr k0 k1 bm bw cw bs cs g c l n t w' := by
  obtain ⟨c1, e1, e2, e3⟩ := h.wds
  obtain ⟨c2, f1, f2, f3⟩ := h.sls
  exact { h with str := k.heap h.str h1, wds := ⟨c1, k.heap e1 h2, e2, e3⟩, sls := ⟨c2, k.heap f1 h3, f2, f3⟩ }
theorem Mr.all (h : Mr k0 k1 bm bw cw bs cs g c l n t w) (k : Kp All w w') : Mr k0 k1 bm bw cw bs cs g c l n t w' := h.kept k trivial trivial trivial
theorem Mr.word (h : Mr k0 k1 bm bw cw bs cs g c l n t w) (hg : c.length / 8 = g) {q : Nat} (hq : q < g) : w.cell? ⟨bw, q, none⟩ = some (.int .u64 (wd (grp c q))) := by
  obtain ⟨c1, e1, e2, e3⟩ := h.wds
  rw [blk_cell e1, ← Array.getElem?_toList]
  have := wcs_get (c := c) (q := q) (by omega)
  rw [← e3, List.getElem?_take, if_pos hq] at this
  exact this
theorem Mr.slot (h : Mr k0 k1 bm bw cw bs cs g c l n t w) (hl : l.length = 8 * g) {i : Nat} (hi : i < 8 * g) : w.cell? ⟨bs, i * 2, none⟩ = some (.string (l.getD i zslot).1) ∧ w.cell? ⟨bs, i * 2 + 1, none⟩ = some (.string (l.getD i zslot).2) := by
  obtain ⟨c2, f1, f2, f3⟩ := h.sls
  have hs : l[i]? = some (l.getD i zslot) := by
    rw [List.getD_eq_getElem?_getD, List.getElem?_eq_getElem (by omega)]; rfl
  obtain ⟨h1, h2⟩ := scs_get hs
  rw [← f3, List.getElem?_take, if_pos (by omega)] at h1 h2
  exact ⟨by rw [blk_cell f1, ← Array.getElem?_toList]; exact h1, by rw [blk_cell f1, ← Array.getElem?_toList]; exact h2⟩
theorem Mr.setW (h : Mr k0 k1 bm bw cw bs cs g c l n t w) (hg : c.length / 8 = g) {q j x : Nat} (hj : j < 8) (hq : q < g) : Mr k0 k1 bm bw cw bs cs g (c.set (8 * q + j) x) l n t (w.setCell ⟨bw, q, none⟩ (.int .u64 (wd ((grp c q).set j x)))) := by
  obtain ⟨c1, e1, e2, e3⟩ := h.wds
  obtain ⟨c2, f1, f2, f3⟩ := h.sls
  refine { h with str := blk_far h.str h.d1 _, wds := ⟨_, blk_set e1 q _, by simpa using e2, ?_⟩, sls := ⟨c2, blk_far f1 (Ne.symm h.d3) _, f2, f3⟩ }
  rw [wcs_set hj (by omega), ← e3]
  simp only [Array.toList_setIfInBounds, List.take_set]
theorem Mr.setS (h : Mr k0 k1 bm bw cw bs cs g c l n t w) (i : Nat) (s : Slot) : Mr k0 k1 bm bw cw bs cs g c (l.set i s) n t ((w.setCell ⟨bs, i * 2, none⟩ (.string s.1)).setCell ⟨bs, i * 2 + 1, none⟩ (.string s.2)) := by
  obtain ⟨c1, e1, e2, e3⟩ := h.wds
  obtain ⟨c2, f1, f2, f3⟩ := h.sls
  refine { h with str := blk_far (blk_far h.str h.d2 _) h.d2 _, wds := ⟨c1, blk_far (blk_far e1 h.d3 _) h.d3 _, e2, e3⟩, sls := ⟨_, blk_set (blk_set f1 _ _) _ _, by simpa using f2, ?_⟩ }
  rw [scs_set, ← f3]
  simp only [Array.toList_setIfInBounds, List.take_set]
theorem Mr.setV (h : Mr k0 k1 bm bw cw bs cs g c l n t w) {i : Nat} {s : Slot} (hi : l[i]? = some s) (v : Tx) : Mr k0 k1 bm bw cw bs cs g c (l.set i (s.1, v)) n t (w.setCell ⟨bs, i * 2 + 1, none⟩ (.string v)) := by
  obtain ⟨c1, e1, e2, e3⟩ := h.wds
  obtain ⟨c2, f1, f2, f3⟩ := h.sls
  refine { h with str := blk_far h.str h.d2 _, wds := ⟨c1, blk_far e1 h.d3 _, e2, e3⟩, sls := ⟨_, blk_set f1 _ _, by simpa using f2, ?_⟩ }
  have hself : (scs l).set (i * 2) (.string s.1) = scs l := by
    apply List.ext_getElem?
    intro p
    by_cases e : i * 2 = p
    · subst e
      have := (scs_get hi).1
      rw [List.getElem?_set_self (List.getElem?_eq_some_iff.1 this).1, this]
    · rw [List.getElem?_set_ne e]
  rw [scs_set, hself, ← f3]
  simp only [Array.toList_setIfInBounds, List.take_set]
theorem Mr.setT (h : Mr k0 k1 bm bw cw bs cs g c l n t w) (t' : Int) : Mr k0 k1 bm bw cw bs cs g c l n t' (w.setCell ⟨bm, 5, none⟩ (.int .i64 t')) := by
  obtain ⟨c1, e1, e2, e3⟩ := h.wds
  obtain ⟨c2, f1, f2, f3⟩ := h.sls
  exact { h with str := blk_set h.str 5 _, wds := ⟨c1, blk_far e1 (Ne.symm h.d1) _, e2, e3⟩, sls := ⟨c2, blk_far f1 (Ne.symm h.d2) _, f2, f3⟩ }
theorem Mr.setN (h : Mr k0 k1 bm bw cw bs cs g c l n t w) (n' : Int) : Mr k0 k1 bm bw cw bs cs g c l n' t (w.setCell ⟨bm, 4, none⟩ (.int .i64 n')) := by
  obtain ⟨c1, e1, e2, e3⟩ := h.wds
  obtain ⟨c2, f1, f2, f3⟩ := h.sls
  exact { h with str := blk_set h.str 4 _, wds := ⟨c1, blk_far e1 (Ne.symm h.d1) _, e2, e3⟩, sls := ⟨c2, blk_far f1 (Ne.symm h.d2) _, f2, f3⟩ }
end
/-- The map M lies. -/
abbrev Ms (k0 k1 bm bw cw bs cs : Nat) (M : Mp) (w : World) : Prop := Mr k0 k1 bm bw cw bs cs M.g M.ctrl M.slots M.cnt M.tmb w
/-- What a walk needs to know of a map. -/
structure Pm (M : Mp) : Prop where
  pow : ∃ k, k ≤ 10 ∧ M.g = 2 ^ k
  len : M.ctrl.length = 8 * M.g
  slen : M.slots.length = 8 * M.g
  bt : Bt M.ctrl
theorem V.Inv.pm {H : Tx → Nat} {M : Mp} (h : Inv H M) : Pm M := ⟨h.pow, h.g8, h.slen.trans h.g8, fun b hb => by have := h.bytes b hb; omega⟩
theorem Pm.g1 {M : Mp} (h : Pm M) : 1 ≤ M.g ∧ M.g ≤ 1024 := by
  obtain ⟨k, hk, e⟩ := h.pow
  obtain ⟨p1, p2, _⟩ := pow_good ⟨k, by omega⟩
  simp only [← e] at p1 p2
  exact ⟨p1, p2⟩
theorem Pm.gb {M : Mp} (h : Pm M) (q : Nat) : Bt (grp M.ctrl q) := fun b hb => h.bt b (by
  obtain ⟨i, _, e⟩ := mem_grp.1 hb
  exact List.mem_of_getElem? e)
theorem Pm.g8 {M : Mp} (h : Pm M) {q : Nat} (hq : q < M.g) : (grp M.ctrl q).length = 8 := grp_len h.len hq
def optV : Option Nat → Int
  | none => -1
  | some i => i
/-- Where only the normal way out is wanted. -/
def onN (R : Act → World → Prop) : Exit → Act → World → Prop := fun e a w => match e with | .normal => R a w | _ => False
theorem wpIn_onN {F : Fence} {n : Nat} {P : Program} {c : Code} {Q : Exit → Act → World → Prop} {a : Act} {w : World} (R : Act → World → Prop) (h : c.wpIn F n P (onN R) a w) (k : ∀ a w, R a w → Q .normal a w) : c.wpIn F n P Q a w :=
  wpIn_mono h (by
    intro e a w h
    cases e
    case normal => exact k a w h
    all_goals exact h.elim)
theorem wp_onN {P : Program} {c : Code} {Q : Exit → Act → World → Prop} {a : Act} {w : World} (R : Act → World → Prop) (h : c.wp P (onN R) a w) (k : ∀ a w, R a w → Q .normal a w) : c.wp P Q a w :=
  Code.wp_mono (by
    intro e a w h
    cases e
    case normal => exact k a w h
    all_goals exact h.elim) h
theorem kf_of {B : Nat} {w w' : World} (k : Kp All w w') : KeepsFrom B w w' := ⟨k.size, fun i o _ hi _ => (k.block i (Array.getElem?_eq_some_iff.1 hi).1 trivial).trans hi⟩
theorem kf_ne {B k : Nat} {w w' : World} (h : Kp (fun b => b ≠ k) w w') (hk : k < B) : KeepsFrom B w w' := ⟨h.size, fun i o hi ho _ => (h.block i (Array.getElem?_eq_some_iff.1 ho).1 (by omega)).trans ho⟩
theorem toList_ne {a b : ByteArray} (h : a ≠ b) : (a.toList == b.toList) = false := by
  rw [← beq_toListBytes]
  obtain ⟨x⟩ := a
  obtain ⟨y⟩ := b
  show (x == y) = false
  simpa using fun e => h (by rw [e])
theorem kf_lt {B : Nat} {S : Nat → Prop} {w w' : World} (h : Kp S w w') (hS : ∀ i, B ≤ i → S i) : KeepsFrom B w w' := ⟨h.size, fun i o hi ho _ => (h.block i (Array.getElem?_eq_some_iff.1 ho).1 (hS i hi)).trans ho⟩
end Go.Proofs.YtodledidabdkaaaDoor
