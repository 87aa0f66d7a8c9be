/- The probe's functions walked: Good, Seq's closure: for every loop that keeps the two boxes. The map of groups in memory. No condition. A region that draws its order and only reads, within a round of a loop over an iterator: one walk, in the text's order, outside of the round, serves; over any program. The map's find walked. No condition but that the map lies, and that the numbers are of their kinds. A region within a round of a loop over an iterator that draws its order and whose last operation waits for all others: the others in the text's order, outside of the round, then the last one; over any program. -/
import Derived.Test.YtodledidabdkaaaGreatDoorM3
import Derived.RangeFuncBox
import Derived.RangeFuncLeaves
import Derived.RangeFuncOne
import Derived.Shelf.Abstract
import Derived.OwnWalkIn
import Derived.TacticsInMore
import Derived.LoopNIn
import Derived.LoopIn
import Derived.BigRegionIn
import Derived.Shelf.SlIterI.Stops
import Derived.Test.YtodledidabdkaaaGreatDoorM2
import Derived.RangeFuncCalls
import Derived.Sort.QuietTacIn
import Derived.Scope
import Derived.Test.YtodledidabdkaaaGreatDoorM1
set_option linter.unusedVariables false
set_option linter.unusedSimpArgs false
namespace Go.Proofs.YtodledidabdkaaaGreatDoor
open Go.RowKit Go.Shelf V
set_option linter.unusedVariables false
set_option linter.unusedSimpArgs false
attribute [local go_sem] Oper.semAt_some
/-- All blocks of cells are kept. -/
structure Kc (w w' : World) : Prop where
  os : w'.os = w.os
  tape : w'.tape = w.tape
  output : w'.output = w.output
  size : w.heap.size ≤ w'.heap.size
  cells : ∀ (b : Nat) (cs : Array Value) (t : TypeId) (fz : Nat × Nat), w.heap[b]? = some (Obj.cells cs t fz) → w'.heap[b]? = some (Obj.cells cs t fz)
theorem Kc.refl (w : World) : Kc w w := ⟨rfl, rfl, rfl, Nat.le_refl _, fun _ _ _ _ h => h⟩
theorem Kc.trans {a b c : World} (h : Kc a b) (k : Kc b c) : Kc a c := ⟨k.os.trans h.os, k.tape.trans h.tape, k.output.trans h.output, Nat.le_trans h.size k.size, fun b' cs t fz hb => k.cells b' cs t fz (h.cells b' cs t fz hb)⟩
theorem Kc.of {a b : World} (k : Kp All a b) : Kc a b := ⟨k.os, k.tape, k.output, k.size, fun b' cs t fz hb => k.heap hb trivial⟩
theorem Kc.drewl {a b : World} (h : Kc a.drew b) : Kc a b := ⟨h.os, h.tape, h.output, h.size, h.cells⟩
theorem Kc.putObj {W : World} {l : Nat} {o o' : Obj} (h : W.heap[l]? = some o) (hc : o.isCells = false) : Kc W (W.putObj l o') := by
  refine ⟨rfl, rfl, rfl, by simp [World.putObj], fun b cs t fz hb => ?_⟩
  by_cases e : b = l
  · subst e
    rw [h] at hb
    injection hb with hb
    subst hb
    cases hc
  · exact (World.putObj_heap_other e).trans hb
set_option maxRecDepth 100000 in
theorem good_any (g : Nat) (hg : ∃ k, k ≤ 10 ∧ g = 2 ^ k) (w : World) : Calls Tryz.prog 100 #[.int .i64 g] w fun e w' => e = .returned (.bool true) ∧ w' = w := by
  obtain ⟨k, hk, hp⟩ := hg
  obtain ⟨p1, p2, p3⟩ := pow_good ⟨k, by omega⟩
  simp only [← hp] at p1 p2 p3
  have ha : bits .and .i64 (g : Int) ((g : Int) - 1) = 0 := by
    rw [show (g : Int) - 1 = ((g - 1 : Nat) : Int) from by omega, i64_and_nat g (g - 1) (by omega) (by omega), p3]; rfl
  have d1 : decide ((1 : Int) ≤ (g : Int)) = true := decide_eq_true (by omega)
  have d2 : decide ((g : Int) ≤ 1024) = true := decide_eq_true (by omega)
  clear hp p3
  go_enter Tryz.func100, Tryz.ntmps100
  go_wp2
  go_ret
  exact ⟨rfl, rfl⟩
theorem seq_any (h g : Int) (w : World) : Calls Tryz.prog 66 #[.int .u64 h, .int .i64 g] w fun e w' => e = .returned (.func (.func 99) #[] #[.pointer (some ⟨w.heap.size + 1, 0, none⟩), .pointer (some ⟨w.heap.size, 0, none⟩)]) ∧ w' = (w.alloc (.cells #[.int .u64 h] 22)).alloc (.cells #[.int .i64 g] 3) := by
  go_enter Tryz.func66, Tryz.ntmps66
  go_wp2
  go_ret
  exact ⟨rfl, rfl⟩
def ivl : Value → Int
  | .int _ n => n
  | _ => 0
/-- the group ahead of a step -/
def prevAt (h g : Nat) : Nat → Nat
  | 0 => h % g
  | i + 1 => seqAt h g i
theorem next_at (h g i : Nat) : (prevAt h g i + i) % g = seqAt h g i := by
  cases i with
  | zero => simp [prevAt, seqAt]
  | succ i => rfl
theorem prev_lt (h g i : Nat) (hg : 0 < g) : prevAt h g i < g := by
  cases i with
  | zero => exact Nat.mod_lt _ hg
  | succ i => exact seqAt_lt _ _ _ hg
set_option maxRecDepth 100000 in
set_option maxHeartbeats 2000000 in
theorem seq1_in (n : Nat) (hn : 1 ≤ n) (l h g Bg Bh : Nat) (hg : ∃ k, k ≤ 10 ∧ g = 2 ^ k) (hh : h < 18446744073709551616) (J Jx : List (Fin g) → World → Prop)
    (hY : ∀ pre x W1, J pre W1 → pre.length < g → YieldAt Fence.wide (n - 1) Tryz.prog l #[.int .i64 x.val] W1 fun e W' =>
      (e = .returned (.bool true) ∧ J (pre ++ [x]) W' ∧ Kc W1 W') ∨ (e = .returned (.bool false) ∧ Jx (pre ++ [x]) W'))
    (W : World) (h1 : W.heap[Bg]? = some (.cells #[.int .i64 g] 3 (0, 0))) (h2 : W.heap[Bh]? = some (.cells #[.int .u64 h] 22 (0, 0))) (h0 : J [] W) :
    CallsIn Fence.wide n Tryz.prog 99 #[.func (.yield l) #[] #[], .pointer (some ⟨Bg, 0, none⟩), .pointer (some ⟨Bh, 0, none⟩)] W fun e W' => (∃ v, e = .returned v) ∧
      ((∃ xs : List (Fin g), xs.map (·.val) = seqP h g ∧ J xs W') ∨ (∃ pre : List (Fin g), (∃ t, t < g ∧ pre.map (·.val) = (seqP h g).take (t + 1)) ∧ Jx pre W')) := by
  have hgd := hid (fun w => callsIn_wide (n := n - 1).2 (good_any g hg w))
  obtain ⟨k, hk, hp⟩ := hg
  obtain ⟨p1, p2, p3⟩ := pow_good ⟨k, by omega⟩
  simp only [← hp] at p1 p2 p3
  have hm : bits .and .u64 (h : Int) ((g : Int) - 1) = ((h % g : Nat) : Int) := by
    rw [show (g : Int) - 1 = ((g - 1 : Nat) : Int) from by omega, u64_and_nat _ _ hh (by omega)]
    congr 1
    rw [hp, Nat.and_two_pow_sub_one_eq_mod]
  have ha : ∀ i, i < g → bits .and .i64 ((prevAt h g i : Int) + (i : Int)) ((g : Int) - 1) = ((seqAt h g i : Nat) : Int) := by
    intro i hi
    have := prev_lt h g i (by omega)
    rw [show (g : Int) - 1 = ((g - 1 : Nat) : Int) from by omega, show ((prevAt h g i : Int) + (i : Int)) = ((prevAt h g i + i : Nat) : Int) from by omega, i64_and_nat _ _ (by omega) (by omega), ← next_at h g i]
    congr 1
    conv => lhs; rw [hp, Nat.and_two_pow_sub_one_eq_mod]
    rw [← hp]
  have HA := hid ha
  have hf : Fence.wide.fn 100 := trivial
  have hb1 := blk_cell h1
  have hb2 := blk_cell h2
  have H1 := hid h1; have H2 := hid h2
  have HM := hid hm
  have hml : h % g < g := Nat.mod_lt _ (by omega)
  clear hp p3 ha h1 h2 hm
  refine callsIn_of_wp Tryz.func99 rfl trivial ?_ rfl
  simp only [Tryz.ntmps99, List.size_toArray, List.length_cons, List.length_nil, Nat.reduceAdd, Nat.reduceSub, Array.replicate_succ, Array.replicate_zero, List.push_toArray, List.append_toArray, List.nil_append, List.cons_append]
  gi_wp2_with (gi_at_call 100; refine (hgd.out _).mono ?_; rintro e w1 ⟨rfl, hw⟩; have hw := hw.symm; subst hw)
  gi_loopw [4, 16] (fun a i wr => ∃ (j : Nat) (pre : List (Fin g)), j ≤ g ∧ a = .int .i64 ((prevAt h g j : Nat) : Int) ∧ i = .int .i64 j ∧ Hid (pre.map (·.val) = (seqP h g).take j) ∧ J pre wr ∧ Kc W wr)
    (fun _ i _ => g - (ivl i).toNat)
  case atStart => exact ⟨0, [], Nat.zero_le _, congrArg (Value.int .i64) (by simp only [prevAt]; first | exact HM.out | go_num | (rw [HM.out]; unfold wrap64; omega)), rfl, hid rfl, h0, Kc.refl _⟩
  case round =>
    obtain ⟨j, pre, hj, rfl, rfl, hpre, hJs, hk⟩ := hrel
    have hb1 := blk_cell (hk.cells _ _ _ _ H1.out)
    have hb2 := blk_cell (hk.cells _ _ _ _ H2.out)
    have HK := hid hk
    clear hk
    by_cases hlt : j < g
    · have d1 : decide ((j : Int) < (g : Int)) = true := decide_eq_true (by omega)
      have hpl : pre.length = j := by
        have := congrArg List.length hpre.out
        rw [List.length_map, List.length_take, seqP_len] at this
        omega
      have hx := seqAt_lt h g j (by omega)
      obtain ⟨fn, tmps, assign, body, hy, hR⟩ := hY pre ⟨seqAt h g j, hx⟩ wr hJs (by omega)
      have hpn := prev_lt h g j (by omega)
      have hnew : Hid ((pre ++ [(⟨seqAt h g j, hx⟩ : Fin g)]).map (·.val) = (seqP h g).take (j + 1)) := hid (by
        rw [List.map_append, hpre.out, List.take_add_one, seqP_get hlt]; rfl)
      have hprev : Hid (prevAt h g (j + 1) = seqAt h g j) := hid rfl
      have hA := HA.out j hlt
      simp only at hy
      clear HM HA
      gi_wp2
      refine hR.mono ?_
      rintro e W3 (⟨rfl, hJ3, hk3⟩ | ⟨rfl, hJx3⟩)
      · gi_wp2
        go_roundw
        case rel => exact ⟨j + 1, pre ++ [⟨seqAt h g j, hx⟩], by omega, rfl, by simp, hnew, hJ3, HK.out.trans hk3⟩
        case measure => simp [ivl]; omega
      · gi_wp2
        refine bodyPost_ret (results_none rfl _ _ _) rfl ?_
        exact ⟨⟨_, rfl⟩, .inr ⟨_, ⟨j, hlt, hnew.out⟩, hJx3⟩⟩
    · have d1 : decide ((j : Int) < (g : Int)) = false := decide_eq_false (by omega)
      obtain rfl : j = g := by omega
      gi_wp2
      go_end0
      exact ⟨⟨_, rfl⟩, .inl ⟨pre, by rw [hpre.out, List.take_of_length_le (by rw [seqP_len]; exact Nat.le_refl _)], hJs⟩⟩
theorem seq_stops (n : Nat) (hn : 1 ≤ n) (h g Bg Bh : Nat) (hg : ∃ k, k ≤ 10 ∧ g = 2 ^ k) (hh : h < 18446744073709551616) (w : World) (h1 : w.heap[Bg]? = some (.cells #[.int .i64 g] 3 (0, 0))) (h2 : w.heap[Bh]? = some (.cells #[.int .u64 h] 22 (0, 0))) :
    SeqStopsK Fence.wide n Tryz.prog 99 #[.pointer (some ⟨Bg, 0, none⟩), .pointer (some ⟨Bh, 0, none⟩)] (fun x : Fin g => #[.int .i64 x.val]) Kc (fun ys => ys.map (·.val) = seqP h g) (fun pre => ∃ t, t < g ∧ pre.map (·.val) = (seqP h g).take (t + 1)) g w := fun l J Jx W hW hJ hJx hY h0 =>
  seq1_in n hn l h g Bg Bh hg hh J Jx hY W ((hW.block _ (blk_lt h1)).trans h1) ((hW.block _ (blk_lt h2)).trans h2) h0
end Go.Proofs.YtodledidabdkaaaGreatDoor

namespace Go.Proofs.YtodledidabdkaaaGreatDoor
open Go.RowKit Go.Shelf V
set_option linter.unusedVariables false
set_option linter.unusedSimpArgs false
attribute [local go_sem] Oper.semAt_some
def wcs (c : List Nat) : List Value := (List.range (c.length / 8)).map fun q => .int .u64 (wd (grp c q))
def scs (l : List Slot) : List Value := l.flatMap fun s => [.string s.1, .string s.2]
theorem wcs_get {c : List Nat} {q : Nat} (h : q < c.length / 8) : (wcs c)[q]? = some (.int .u64 (wd (grp c q))) := by
  unfold wcs
  simp [h]
theorem wcs_len (c : List Nat) : (wcs c).length = c.length / 8 := by simp [wcs]
theorem scs_len : ∀ l : List Slot, (scs l).length = l.length * 2
  | [] => rfl
  | s :: r => by
    have := scs_len r
    simp only [scs, List.flatMap_cons, List.length_append, List.length_cons, List.length_nil] at this ⊢
    omega
theorem scs_get : ∀ {l : List Slot} {i : Nat} {s : Slot}, l[i]? = some s → (scs l)[i * 2]? = some (.string s.1) ∧ (scs l)[i * 2 + 1]? = some (.string s.2)
  | [], i, s, h => by simp at h
  | x :: r, 0, s, h => by
    simp only [List.getElem?_cons_zero, Option.some.injEq] at h
    subst h
    simp [scs]
  | x :: r, i + 1, s, h => by
    obtain ⟨h1, h2⟩ := scs_get (l := r) (i := i) (s := s) (by simpa using h)
    simp only [scs, List.flatMap_cons] at h1 h2 ⊢
    rw [show (i + 1) * 2 = i * 2 + 2 from by omega]
    simp only [List.cons_append, List.nil_append, List.getElem?_cons_succ]
    exact ⟨h1, h2⟩
theorem grp_set_self {c : List Nat} {q j x : Nat} (hj : j < 8) : grp (c.set (8 * q + j) x) q = (grp c q).set j x := by
  unfold grp
  rw [List.drop_set, if_neg (by omega), List.take_set, show 8 * q + j - 8 * q = j from by omega]
theorem grp_set_oth {c : List Nat} {p q j x : Nat} (hj : j < 8) (hp : p ≠ q) : grp (c.set (8 * q + j) x) p = grp c p := by
  apply List.ext_getElem?
  intro i
  by_cases hi : i < 8
  · rw [grp_get hi, grp_get hi, List.getElem?_set_ne (by omega)]
  · unfold grp
    rw [List.getElem?_take, List.getElem?_take, if_neg hi, if_neg hi]
theorem wcs_set {c : List Nat} {q j x : Nat} (hj : j < 8) (hq : q < c.length / 8) : wcs (c.set (8 * q + j) x) = (wcs c).set q (.int .u64 (wd ((grp c q).set j x))) := by
  apply List.ext_getElem?
  intro p
  by_cases hp : p < c.length / 8
  · rw [wcs_get (by simpa using hp)]
    by_cases e : p = q
    · subst e
      rw [List.getElem?_set_self (by rw [wcs_len]; exact hp), grp_set_self hj]
    · rw [List.getElem?_set_ne (Ne.symm e), wcs_get hp, grp_set_oth hj e]
  · rw [List.getElem?_eq_none (by rw [wcs_len]; simpa using hp), List.getElem?_eq_none (by rw [List.length_set, wcs_len]; omega)]
theorem scs_set : ∀ (l : List Slot) (i : Nat) (s : Slot), scs (l.set i s) = ((scs l).set (i * 2) (.string s.1)).set (i * 2 + 1) (.string s.2)
  | [], i, s => by simp [scs]
  | y :: l, 0, s => by simp [scs]
  | y :: l, i + 1, s => by
    have := scs_set l i s
    simp only [scs, List.set_cons_succ, List.flatMap_cons] at this ⊢
    rw [this, show (i + 1) * 2 = i * 2 + 2 from by omega]
    simp
/-- A map of g groups lies, its numbers as they stand: its struct in block bm, its words in bw, its slots in bs. -/
structure Mr (k0 k1 bm bw cw bs cs g : Nat) (c : List Nat) (l : List Slot) (n t : Int) (w : World) : Prop where
  str : w.heap[bm]? = some (.cells #[.int .u64 k0, .int .u64 k1, .slice (some ⟨bw, 0, none⟩) g cw, .slice (some ⟨bs, 0, none⟩) (8 * g) cs, .int .i64 n, .int .i64 t] 73 (0, 0))
  wds : ∃ cur, w.heap[bw]? = some (.cells cur 22 (0, 0)) ∧ cur.size = cw ∧ cur.toList.take g = wcs c
  sls : ∃ cur, w.heap[bs]? = some (.cells cur 70 (0, 0)) ∧ cur.size = cs * 2 ∧ cur.toList.take (8 * g * 2) = scs l
  cwl : g ≤ cw
  csl : 8 * g ≤ cs
  cwm : cw ≤ 9223372036854775807
  csm : cs ≤ 9223372036854775807
  d1 : bm ≠ bw
  d2 : bm ≠ bs
  d3 : bw ≠ bs
  z1 : bm ≠ 0
  z2 : bw ≠ 0
  z3 : bs ≠ 0
section
variable {k0 k1 bm bw cw bs cs g : Nat} {c : List Nat} {l : List Slot} {n t : Int} {w w' : World}
theorem Mr.kept {S : Nat → Prop} (h : Mr k0 k1 bm bw cw bs cs g c l n t w) (k : Kp S w w') (h1 : S bm) (h2 : S bw) (h3 : S bs) : Mr k0 k1 bm bw cw bs cs g c l n t w' := by
  obtain ⟨c1, e1, e2, e3⟩ := h.wds
  obtain ⟨c2, f1, f2, f3⟩ := h.sls
  exact { h with str := k.heap h.str h1, wds := ⟨c1, k.heap e1 h2, e2, e3⟩, sls := ⟨c2, k.heap f1 h3, f2, f3⟩ }
theorem Mr.all (h : Mr k0 k1 bm bw cw bs cs g c l n t w) (k : Kp All w w') : Mr k0 k1 bm bw cw bs cs g c l n t w' := h.kept k trivial trivial trivial
theorem Mr.word (h : Mr k0 k1 bm bw cw bs cs g c l n t w) (hg : c.length / 8 = g) {q : Nat} (hq : q < g) : w.cell? ⟨bw, q, none⟩ = some (.int .u64 (wd (grp c q))) := by
  obtain ⟨c1, e1, e2, e3⟩ := h.wds
  rw [blk_cell e1, ← Array.getElem?_toList]
  have := wcs_get (c := c) (q := q) (by omega)
  rw [← e3, List.getElem?_take, if_pos hq] at this
  exact this
theorem Mr.slot (h : Mr k0 k1 bm bw cw bs cs g c l n t w) (hl : l.length = 8 * g) {i : Nat} (hi : i < 8 * g) : w.cell? ⟨bs, i * 2, none⟩ = some (.string (l.getD i zslot).1) ∧ w.cell? ⟨bs, i * 2 + 1, none⟩ = some (.string (l.getD i zslot).2) := by
  obtain ⟨c2, f1, f2, f3⟩ := h.sls
  have hs : l[i]? = some (l.getD i zslot) := by
    rw [List.getD_eq_getElem?_getD, List.getElem?_eq_getElem (by omega)]; rfl
  obtain ⟨h1, h2⟩ := scs_get hs
  rw [← f3, List.getElem?_take, if_pos (by omega)] at h1 h2
  exact ⟨by rw [blk_cell f1, ← Array.getElem?_toList]; exact h1, by rw [blk_cell f1, ← Array.getElem?_toList]; exact h2⟩
theorem Mr.setW (h : Mr k0 k1 bm bw cw bs cs g c l n t w) (hg : c.length / 8 = g) {q j x : Nat} (hj : j < 8) (hq : q < g) : Mr k0 k1 bm bw cw bs cs g (c.set (8 * q + j) x) l n t (w.setCell ⟨bw, q, none⟩ (.int .u64 (wd ((grp c q).set j x)))) := by
  obtain ⟨c1, e1, e2, e3⟩ := h.wds
  obtain ⟨c2, f1, f2, f3⟩ := h.sls
  refine { h with str := blk_far h.str h.d1 _, wds := ⟨_, blk_set e1 q _, by simpa using e2, ?_⟩, sls := ⟨c2, blk_far f1 (Ne.symm h.d3) _, f2, f3⟩ }
  rw [wcs_set hj (by omega), ← e3]
  simp only [Array.toList_setIfInBounds, List.take_set]
theorem Mr.setS (h : Mr k0 k1 bm bw cw bs cs g c l n t w) (i : Nat) (s : Slot) : Mr k0 k1 bm bw cw bs cs g c (l.set i s) n t ((w.setCell ⟨bs, i * 2, none⟩ (.string s.1)).setCell ⟨bs, i * 2 + 1, none⟩ (.string s.2)) := by
  obtain ⟨c1, e1, e2, e3⟩ := h.wds
  obtain ⟨c2, f1, f2, f3⟩ := h.sls
  refine { h with str := blk_far (blk_far h.str h.d2 _) h.d2 _, wds := ⟨c1, blk_far (blk_far e1 h.d3 _) h.d3 _, e2, e3⟩, sls := ⟨_, blk_set (blk_set f1 _ _) _ _, by simpa using f2, ?_⟩ }
  rw [scs_set, ← f3]
  simp only [Array.toList_setIfInBounds, List.take_set]
theorem Mr.setV (h : Mr k0 k1 bm bw cw bs cs g c l n t w) {i : Nat} {s : Slot} (hi : l[i]? = some s) (v : Tx) : Mr k0 k1 bm bw cw bs cs g c (l.set i (s.1, v)) n t (w.setCell ⟨bs, i * 2 + 1, none⟩ (.string v)) := by
  obtain ⟨c1, e1, e2, e3⟩ := h.wds
  obtain ⟨c2, f1, f2, f3⟩ := h.sls
  refine { h with str := blk_far h.str h.d2 _, wds := ⟨c1, blk_far e1 h.d3 _, e2, e3⟩, sls := ⟨_, blk_set f1 _ _, by simpa using f2, ?_⟩ }
  have hself : (scs l).set (i * 2) (.string s.1) = scs l := by
    apply List.ext_getElem?
    intro p
    by_cases e : i * 2 = p
    · subst e
      have := (scs_get hi).1
      rw [List.getElem?_set_self (List.getElem?_eq_some_iff.1 this).1, this]
    · rw [List.getElem?_set_ne e]
  rw [scs_set, hself, ← f3]
  simp only [Array.toList_setIfInBounds, List.take_set]
theorem Mr.setT (h : Mr k0 k1 bm bw cw bs cs g c l n t w) (t' : Int) : Mr k0 k1 bm bw cw bs cs g c l n t' (w.setCell ⟨bm, 5, none⟩ (.int .i64 t')) := by
  obtain ⟨c1, e1, e2, e3⟩ := h.wds
  obtain ⟨c2, f1, f2, f3⟩ := h.sls
  exact { h with str := blk_set h.str 5 _, wds := ⟨c1, blk_far e1 (Ne.symm h.d1) _, e2, e3⟩, sls := ⟨c2, blk_far f1 (Ne.symm h.d2) _, f2, f3⟩ }
theorem Mr.setN (h : Mr k0 k1 bm bw cw bs cs g c l n t w) (n' : Int) : Mr k0 k1 bm bw cw bs cs g c l n' t (w.setCell ⟨bm, 4, none⟩ (.int .i64 n')) := by
  obtain ⟨c1, e1, e2, e3⟩ := h.wds
  obtain ⟨c2, f1, f2, f3⟩ := h.sls
  exact { h with str := blk_set h.str 4 _, wds := ⟨c1, blk_far e1 (Ne.symm h.d1) _, e2, e3⟩, sls := ⟨c2, blk_far f1 (Ne.symm h.d2) _, f2, f3⟩ }
end
/-- The map M lies. -/
abbrev Ms (k0 k1 bm bw cw bs cs : Nat) (M : Mp) (w : World) : Prop := Mr k0 k1 bm bw cw bs cs M.g M.ctrl M.slots M.cnt M.tmb w
/-- What a walk needs to know of a map. -/
structure Pm (M : Mp) : Prop where
  pow : ∃ k, k ≤ 10 ∧ M.g = 2 ^ k
  len : M.ctrl.length = 8 * M.g
  slen : M.slots.length = 8 * M.g
  bt : Bt M.ctrl
theorem V.Inv.pm {H : Tx → Nat} {M : Mp} (h : Inv H M) : Pm M := ⟨h.pow, h.g8, h.slen.trans h.g8, fun b hb => by have := h.bytes b hb; omega⟩
theorem Pm.g1 {M : Mp} (h : Pm M) : 1 ≤ M.g ∧ M.g ≤ 1024 := by
  obtain ⟨k, hk, e⟩ := h.pow
  obtain ⟨p1, p2, _⟩ := pow_good ⟨k, by omega⟩
  simp only [← e] at p1 p2
  exact ⟨p1, p2⟩
theorem Pm.gb {M : Mp} (h : Pm M) (q : Nat) : Bt (grp M.ctrl q) := fun b hb => h.bt b (by
  obtain ⟨i, _, e⟩ := mem_grp.1 hb
  exact List.mem_of_getElem? e)
theorem Pm.g8 {M : Mp} (h : Pm M) {q : Nat} (hq : q < M.g) : (grp M.ctrl q).length = 8 := grp_len h.len hq
def optV : Option Nat → Int
  | none => -1
  | some i => i
/-- Where only the normal way out is wanted. -/
def onN (R : Act → World → Prop) : Exit → Act → World → Prop := fun e a w => match e with | .normal => R a w | _ => False
theorem wpIn_onN {F : Fence} {n : Nat} {P : Program} {c : Code} {Q : Exit → Act → World → Prop} {a : Act} {w : World} (R : Act → World → Prop) (h : c.wpIn F n P (onN R) a w) (k : ∀ a w, R a w → Q .normal a w) : c.wpIn F n P Q a w :=
  wpIn_mono h (by
    intro e a w h
    cases e
    case normal => exact k a w h
    all_goals exact h.elim)
theorem wp_onN {P : Program} {c : Code} {Q : Exit → Act → World → Prop} {a : Act} {w : World} (R : Act → World → Prop) (h : c.wp P (onN R) a w) (k : ∀ a w, R a w → Q .normal a w) : c.wp P Q a w :=
  Code.wp_mono (by
    intro e a w h
    cases e
    case normal => exact k a w h
    all_goals exact h.elim) h
theorem kf_of {B : Nat} {w w' : World} (k : Kp All w w') : KeepsFrom B w w' := ⟨k.size, fun i o _ hi _ => (k.block i (Array.getElem?_eq_some_iff.1 hi).1 trivial).trans hi⟩
theorem kf_ne {B k : Nat} {w w' : World} (h : Kp (fun b => b ≠ k) w w') (hk : k < B) : KeepsFrom B w w' := ⟨h.size, fun i o hi ho _ => (h.block i (Array.getElem?_eq_some_iff.1 ho).1 (by omega)).trans ho⟩
theorem toList_ne {a b : ByteArray} (h : a ≠ b) : (a.toList == b.toList) = false := by
  rw [← beq_toListBytes]
  obtain ⟨x⟩ := a
  obtain ⟨y⟩ := b
  show (x == y) = false
  simpa using fun e => h (by rw [e])
theorem kf_lt {B : Nat} {S : Nat → Prop} {w w' : World} (h : Kp S w w') (hS : ∀ i, B ≤ i → S i) : KeepsFrom B w w' := ⟨h.size, fun i o hi ho _ => (h.block i (Array.getElem?_eq_some_iff.1 ho).1 (hS i hi)).trans ho⟩
end Go.Proofs.YtodledidabdkaaaGreatDoor

namespace Go.Proofs.YtodledidabdkaaaGreatDoor
open Go.RowKit
set_option linter.unusedVariables false
set_option linter.unusedSimpArgs false
section
variable {F : Fence} {n : Nat} {P : Program} {ops : Array Oper} {md : Region.Mode} {C : World → Prop} {l0 : Nat}
theorem wpIn_of_quietR {o : Oper} {a : Act} {K : Act → Prop} {K' : Act → World → Prop} {Q' : Exit → Act → World → Prop} {w : World} (hd : ∀ c, o.op ≠ .defer c) (hw : C w) (h : ∀ a w', C w' → K a → K' a w')
    (ha : o.askedIn F P a C) (hh : o.quietIn F n P a C K) : o.wpIn (F.inRound l0) n P a w K' Q' := by
  obtain ⟨v, h1, h2⟩ := hh
  have h3 := h1 w hw
  unfold Oper.quietAtIn at h3
  unfold Oper.wpIn
  refine ⟨ha w hw, ?_⟩
  rw [Oper.semAt_eq _ _ _ hd]
  generalize (execOp a.eval o).run P w = r at *
  cases r with
  | ok x w' =>
    cases x <;> simp only [Oper.quietUponIn] at h3 <;> simp only [Oper.uponIn]
    case value u =>
      obtain ⟨e1, e2⟩ := h3
      rw [e1, e2]
      exact h _ _ hw h2
    case skip =>
      obtain ⟨e1, e2⟩ := h3
      rw [e1, ← e2]
      exact h _ _ hw h2
    case enter f args =>
      obtain ⟨e1, hdp, hc⟩ := h3
      rw [e1]
      exact ⟨hdp, (CallsIn.inRound l0 hc).mono fun e w'' ⟨he, hw''⟩ => by subst he; exact h _ _ hw'' h2⟩
  | halt x w' => simp only [Oper.quietUponIn] at h3
def noDefer (l : List Oper) : Bool := l.all fun o => match o.op with | .defer _ => false | _ => true
theorem noDefer_spec {l : List Oper} (h : noDefer l = true) {o : Oper} (ho : o ∈ l) : ∀ c, o.op ≠ .defer c := by
  intro c e
  have := List.all_eq_true.1 h o ho
  rw [e] at this
  cases this
theorem wpOpIn_of_qOpInR {i : Nat} {a : Act} {K : Act → Prop} {K' : Act → World → Prop} {Q' : Exit → Act → World → Prop} {w : World} (hnd : noDefer ops.toList = true) (hC : C w) (h : ∀ a w', C w' → K a → K' a w')
    (hh : qOpIn F n P ops C i K a) : wpOpIn (F.inRound l0) n P ops Q' i K' a w := by
  unfold qOpIn at hh
  unfold wpOpIn
  split
  · rename_i ho; simp only [ho] at hh; exact h _ _ hC hh
  · rename_i o ho
    simp only [ho] at hh
    obtain ⟨ha, hh⟩ := hh
    have hm : o ∈ ops.toList := by
      rw [← Array.getElem?_toList] at ho
      exact List.mem_of_getElem? ho
    split
    · rename_i hw; simp only [hw, if_true] at hh; exact wpIn_of_quietR (noDefer_spec hnd hm) hC h ha hh
    · rename_i hw; simp only [hw] at hh; exact ⟨ha w hC, h _ _ hC hh⟩
theorem wpAnyIn_of_quietR {Q : Act → Prop} {Q' : Exit → Act → World → Prop} (hnd : noDefer ops.toList = true) (hQ : ∀ a w, C w → Q a → Q' .normal a w) : ∀ (fuel : Nat) (listed : Array Bool) (a : Act) (w : World), C w →
    wpAnyQIn F n P md ops C Q fuel listed a → wpAnyIn (F.inRound l0) n P md ops Q' fuel listed a w
  | 0, _, _, _, hw, h => ⟨h.1, hQ _ _ hw h.2⟩
  | fuel + 1, _, _, _, hw, h => ⟨fun h0 => hQ _ _ hw (h.1 h0), fun i hi => wpOpIn_of_qOpInR hnd hw (fun a' w' hw' => wpAnyIn_of_quietR hnd hQ fuel _ a' w' hw') (h.2 i hi)⟩
theorem wpIn_region_quietR {id : Nat} {Q : Exit → Act → World → Prop} {a : Act} {w : World} {l : List Oper} (hm : P.follows .mixedOrders = true) (hB : Region.lexB .any l.toArray = true) (hnd : noDefer l = true)
    (h : wpQuietIn F n P l.toArray (fun w' => ∃ n, w' = w.drewN n) (fun a' => ∀ w', (∃ n, w' = w.drewN n) → Q .normal a' w') l a) : (Code.region id l.toArray true).wpIn (F.inRound l0) n P Q a w := by
  simp only [Region.lexB, Bool.and_eq_true] at hB
  refine wpIn_region_any hm (wpAnyIn_of_quietR (F := F) (C := fun w' => ∃ n, w' = w.drewN n) (Q := fun a' => ∀ w', (∃ n, w' = w.drewN n) → Q .normal a' w') (by simpa using hnd) (fun _ w' hw' h => h w' hw') _ _ _ _ ⟨1, rfl⟩ ?_)
  have := wpAnyQIn_lex (F := F) (n := n) (C := fun w' => ∃ n, w' = w.drewN n) (md := .any) hB.1 l 0 (Array.replicate l.length false) a (by simp) (by simpa using hB.2) h
  simpa using this
end
end Go.Proofs.YtodledidabdkaaaGreatDoor

namespace Go.Proofs.YtodledidabdkaaaGreatDoor
open Go.RowKit Go.Shelf V
set_option linter.unusedVariables false
set_option linter.unusedSimpArgs false
attribute [local go_sem] Oper.semAt_some
set_option maxRecDepth 100000 in
set_option maxHeartbeats 4000000 in
theorem find_any (k0 k1 bm bw cw bs cs : Nat) (M : Mp) (hP : Pm M) (h0 : k0 < 18446744073709551616) (h1 : k1 < 18446744073709551616) (key : ByteArray) (hkey : key.size ≤ 9000000000000000000) (w : World) (h : Ms k0 k1 bm bw cw bs cs M w) :
    Calls Tryz.prog 34 #[.pointer (some ⟨bm, 0, none⟩), .string key] w fun e w' => e = .returned (.int .i64 (optV (findP (sipP k0 k1) M key))) ∧ Kp All w w' := by
  refine (callsIn_wide (n := 6)).1 ?_
  have hsip := sip_lt h0 h1 key
  have HM := hid h; have HP := hid hP
  have hc0 := blk_cell h.str
  refine callsIn_of_wp_marks Tryz.func34 rfl trivial ?_ rfl
  simp only [Tryz.ntmps34, List.size_toArray, List.length_cons, List.length_nil, Nat.reduceAdd, Nat.reduceSub, Array.replicate_succ, Array.replicate_zero, List.push_toArray, List.append_toArray, List.nil_append, List.cons_append]
  refine wpIn_wide.2 ?_
  go_wp2_with fail
  have b2 := blk_new w (.cells #[.pointer (some ⟨bm, 0, none⟩)] 28)
  have b3 := blk_new (w.alloc (.cells #[.pointer (some ⟨bm, 0, none⟩)] 28)) (.cells #[.string key] 9)
  have b2 := blk_alloc b2 (.cells #[.string key] 9)
  rw [World.size_alloc] at b3
  have HK0 := hid ((Kp.al w (.cells #[.pointer (some ⟨bm, 0, none⟩)] 28)).trans (Kp.al _ (.cells #[.string key] 9)))
  obtain ⟨W1, hW1⟩ : ∃ W1, (w.alloc (.cells #[.pointer (some ⟨bm, 0, none⟩)] 28)).alloc (.cells #[.string key] 9) = W1 := ⟨_, rfl⟩
  have hsz1 : W1.heap.size = w.heap.size + 2 := by rw [← hW1]; simp
  rw [hW1] at b2 b3 HK0 ⊢
  clear hW1
  have HM1 := hid (HM.out.all HK0.out)
  have hc1 := blk_cell HM1.out.str
  have c2 := blk_cell b2
  have c3 := blk_cell b3
  have HB2 := hid b2; have HB3 := hid b3
  clear hc0 h b2 b3
  obtain ⟨X, hX⟩ : ∃ X, sipP k0 k1 key = X := ⟨_, rfl⟩
  rw [hX] at hsip
  have HX := hid hX
  clear hX
  refine wp_scope_straight ?_
  refine wp_seq ?_
  refine wp_onN (fun a' w' => ∃ b, Hid (w'.heap[b]? = some (.cells #[.int .u8 ((X : Int) % 128)] 5 (0, 0)) ∧ W1.heap.size ≤ b) ∧ Hid (Kp All W1 w') ∧ a' = { tmps := #[.pointer (some ⟨bm, 0, none⟩), .string key, .pointer (some ⟨w.heap.size, 0, none⟩), .pointer (some ⟨w.heap.size + 1, 0, none⟩), .int .i64 0, .int .u64 ((X : Int) / 128), .pointer (some ⟨b, 0, none⟩), undef, undef, undef, undef, .tuple #[.int .u64 ((X : Int) / 128), .int .u8 ((X : Int) % 128)], .pointer (some ⟨bm, 0, none⟩), .pointer (some ⟨bm, 0, none⟩), .pointer (some ⟨bm, 0, none⟩), .agg #[.int .u64 k0, .int .u64 k1], .string key, .int .u64 X, .tuple #[.int .u64 ((X : Int) / 128), .int .u8 ((X : Int) % 128)], .int .u64 ((X : Int) / 128), .int .u8 ((X : Int) % 128), undef, undef, undef, undef, undef, undef, undef, undef, undef, undef, undef, undef, undef, undef, undef, undef, undef, undef, undef, undef, undef, undef, undef, undef, undef, undef, undef, undef, undef, undef, undef, undef, undef, undef, undef, undef, undef, undef, undef, undef, undef, undef, undef, undef, undef, undef, undef], defers := [] }) ?_ ?_
  · have hmk : ∀ w', Kp All W1 w' → (∀ i, w'.cell? ⟨bm, i, none⟩ = (#[.int .u64 k0, .int .u64 k1, .slice (some ⟨bw, 0, none⟩) M.g cw, .slice (some ⟨bs, 0, none⟩) (8 * M.g) cs, .int .i64 M.cnt, .int .i64 M.tmb] : Array Value)[i]?) ∧ (∀ i, w'.cell? ⟨w.heap.size, i, none⟩ = (#[.pointer (some ⟨bm, 0, none⟩)] : Array Value)[i]?) ∧ (∀ i, w'.cell? ⟨w.heap.size + 1, i, none⟩ = (#[.string key] : Array Value)[i]?) ∧ Kp All W1 w' := fun w' k => ⟨blk_cell (k.heap HM1.out.str trivial), blk_cell (k.heap HB2.out trivial), blk_cell (k.heap HB3.out trivial), k⟩
    have HMK := hid hmk
    clear hmk
    go_region_held3 (fun w' => (∀ i, w'.cell? ⟨bm, i, none⟩ = (#[.int .u64 k0, .int .u64 k1, .slice (some ⟨bw, 0, none⟩) M.g cw, .slice (some ⟨bs, 0, none⟩) (8 * M.g) cs, .int .i64 M.cnt, .int .i64 M.tmb] : Array Value)[i]?) ∧ (∀ i, w'.cell? ⟨w.heap.size, i, none⟩ = (#[.pointer (some ⟨bm, 0, none⟩)] : Array Value)[i]?) ∧ (∀ i, w'.cell? ⟨w.heap.size + 1, i, none⟩ = (#[.string key] : Array Value)[i]?) ∧ Kp All W1 w') (first | assumption | exact HMK.out _ (Kp.refl _ _).drew | (refine HMK.out _ ?_; first | exact HKS.out | exact HKS.out.alloc _ | exact HKS.out.setNew (Nat.le_of_eq hsz1) _ | exact (by assumption : _ ∧ _ ∧ _ ∧ Kp All W1 _).2.2.2.alloc _ | (refine (by assumption : _ ∧ _ ∧ _ ∧ Kp All W1 _).2.2.2.setNew ?_ _; simp only [World.size_alloc, World.size_drew]; omega))) (first | (go_at_call 64; refine (split_any X hsip _).mono ?_; rintro e w' ⟨rfl, rfl⟩) | (go_at_call 65; refine (sum_sip k0 k1 h0 h1 key hkey _).mono ?_; rintro e wS ⟨rfl, hkS⟩; rw [HX.out]; have HKS := hid ((by assumption : _ ∧ _ ∧ _ ∧ Kp All W1 _).2.2.2.trans hkS); have HKL := hid hkS; (try (have hbx : wS.heap[W1.heap.size]? = some (.cells #[.int .u8 0] 5 (0, 0)) := hkS.heap (blk_new W1.drew _) trivial; rw [hsz1] at hbx; have cbx := blk_cell hbx; have fbx := blk_free hbx; have HBX := hid hbx; clear hbx)); clear hkS))
    all_goals first | exact ⟨_, hid ⟨blk_new _ _, HKS.out.size⟩, hid (HKS.out.alloc _), rfl⟩ | exact ⟨w.heap.size + 2, hid ⟨blk_set HBX.out 0 _, Nat.le_of_eq hsz1⟩, hid (HKS.out.setNew (Nat.le_of_eq hsz1) _), rfl⟩
  rintro _ W2 ⟨b, HB, HK2, rfl⟩
  have HM2 := hid (HM1.out.all HK2.out)
  have hc2 := blk_cell HM2.out.str
  have c22 := blk_cell (HK2.out.heap HB2.out trivial)
  have c23 := blk_cell (HK2.out.heap HB3.out trivial)
  have c2b := blk_cell HB.out.1
  clear hc1 c2 c3 hsz1
  go_wp2_with fail
  have bat := blk_new W2 (.cells #[.int .i64 (-1)] 3)
  have kat := Kp.al W2 (.cells #[.int .i64 (-1)] 3)
  obtain ⟨W3, hW3⟩ : ∃ W3, W2.alloc (.cells #[.int .i64 (-1)] 3) = W3 := ⟨_, rfl⟩
  have hsz3 : W3.heap.size = W2.heap.size + 1 := by rw [← hW3]; simp
  rw [hW3] at bat kat ⊢
  clear hW3
  have HM3 := hid (HM2.out.all kat)
  have hc3 := blk_cell HM3.out.str
  have c32 := blk_cell (kat.heap (HK2.out.heap HB2.out trivial) trivial)
  have c33 := blk_cell (kat.heap (HK2.out.heap HB3.out trivial) trivial)
  have HBA := hid bat; have HKA := hid kat
  clear hc2 c22 c23 c2b bat kat
  refine wp_label ?_
  go_wp2_with (go_at_call 66; refine (seq_any _ _ _).mono ?_; rintro e w' ⟨rfl, rfl⟩)
  have bh := blk_new W3 (.cells #[.int .u64 ((X : Int) / 128)] 22)
  have bg := blk_new (W3.alloc (.cells #[.int .u64 ((X : Int) / 128)] 22)) (.cells #[.int .i64 M.g] 3)
  have bh := blk_alloc bh (.cells #[.int .i64 M.g] 3)
  rw [World.size_alloc] at bg
  have k5 := (Kp.al W3 (.cells #[.int .u64 ((X : Int) / 128)] 22)).trans (Kp.al _ (.cells #[.int .i64 M.g] 3))
  obtain ⟨W5, hW5⟩ : ∃ W5, (W3.alloc (.cells #[.int .u64 ((X : Int) / 128)] 22)).alloc (.cells #[.int .i64 M.g] 3) = W5 := ⟨_, rfl⟩
  have hsz5 : W5.heap.size = W2.heap.size + 3 := by rw [← hW5]; simp [hsz3]
  rw [hW5] at bg bh k5 ⊢
  rw [hsz3] at bg bh
  clear hW5
  have HM5 := hid (HM3.out.all k5)
  have HB25 := hid (k5.heap (HKA.out.heap (HK2.out.heap HB2.out trivial) trivial) trivial)
  have HB35 := hid (k5.heap (HKA.out.heap (HK2.out.heap HB3.out trivial) trivial) trivial)
  have HBb5 := hid (k5.heap (HKA.out.heap HB.out.1 trivial) trivial)
  have HBA5 := hid (k5.heap HBA.out trivial)
  have HK5 : Hid (Kp All w W5) := hid (HK0.out.trans (HK2.out.trans (HKA.out.trans k5)))
  clear hc3 c32 c33 k5 HKA HBA HM3 HM2 HM1
  have hx7 : X / 128 < 18446744073709551616 := by omega
  have hseq := seq_stops 4 (by omega) (X / 128) M.g (W2.heap.size + 1 + 1) (W2.heap.size + 1) HP.out.pow hx7 W5 bg (by simpa using bh)
  refine (wpIn_wide (n := 5)).1 ?_
  refine wpIn_rangeFunc_ownG rfl (by omega) (gf := 99) (lb := #[.pointer (some ⟨W2.heap.size + 1 + 1, 0, none⟩), .pointer (some ⟨W2.heap.size + 1, 0, none⟩)]) rfl trivial (enters_of Tryz.func99 (by kernel_rfl) rfl)
    (encs := fun x : Fin M.g => #[.int .i64 x.val]) (Kp := Kc) hseq Kc.trans (fun W l o o' _ h hc _ => Kc.putObj h hc) (Below.refl _ _) (fun _ => rfl)
    (fun pre W => Kp All W5 W ∧ ∀ rest, findL M (X % 128) key (pre.map (·.val) ++ rest) = findL M (X % 128) key rest)
    (fun c pre W => c = .exit 0 ∧ ∃ r : Option Nat, W.heap[W2.heap.size]? = some (.cells #[.int .i64 (optV r)] 3 (0, 0)) ∧ Kp (fun k => k ≠ W2.heap.size) W5 W ∧ ∀ rest, findL M (X % 128) key (pre.map (·.val) ++ rest) = r)
    (fun s A B row h hg hr => ⟨h.1.then (Kp.grown hg) (fun i hi _ e => by have := (hr i e.symm).1; omega), h.2⟩)
    (fun c s A B row h hg hr => by
      obtain ⟨e, r, h1, h2, h3⟩ := h
      have hk : Kp (fun k => k < W5.heap.size) A B := (Kp.grown hg).mono (fun i hi hlt e => by have := (hr i e.symm).1; omega)
      exact ⟨e, r, hk.heap h1 (by omega), h2.then hk (fun i hi _ => hi), h3⟩)
    ⟨Kp.refl _ _, fun _ => rfl⟩
    (fun x => { tmps := #[.pointer (some ⟨bm, 0, none⟩), .string key, .pointer (some ⟨w.heap.size, 0, none⟩), .pointer (some ⟨w.heap.size + 1, 0, none⟩), .int .i64 0, .int .u64 ((X : Int) / 128), .pointer (some ⟨b, 0, none⟩), .pointer (some ⟨W2.heap.size, 0, none⟩), .int .i64 x.val, undef, undef, .tuple #[.int .u64 ((X : Int) / 128), .int .u8 ((X : Int) % 128)], .pointer (some ⟨bm, 0, none⟩), .pointer (some ⟨bm, 0, none⟩), .pointer (some ⟨bm, 0, none⟩), .agg #[.int .u64 k0, .int .u64 k1], .string key, .int .u64 X, .tuple #[.int .u64 ((X : Int) / 128), .int .u8 ((X : Int) % 128)], .int .u64 ((X : Int) / 128), .int .u8 ((X : Int) % 128), .int .u64 ((X : Int) / 128), .pointer (some ⟨bm, 0, none⟩), .pointer (some ⟨bm, 0, none⟩), .pointer (some ⟨bm, 2, none⟩), .slice (some ⟨bw, 0, none⟩) M.g cw, .int .i64 M.g, .func (.func 99) #[] #[.pointer (some ⟨W2.heap.size + 1 + 1, 0, none⟩), .pointer (some ⟨W2.heap.size + 1, 0, none⟩)], .int .i64 x.val, undef, undef, undef, undef, undef, undef, undef, undef, undef, undef, undef, undef, undef, undef, undef, undef, undef, undef, undef, undef, undef, undef, undef, undef, undef, undef, undef, undef, undef, undef, undef, undef, undef, undef, undef, undef, undef, undef, undef], defers := [] }) ?assign ?body ?done ?stop
  case assign =>
    intro l x W K hK
    gi_wp2
    exact hK
  case body =>
    rintro l pre x W ⟨hK, hF⟩ hlt
    have hMW := HM5.out.all hK
    have hxg := x.isLt
    have hcm := blk_cell hMW.str
    have cw2 := blk_cell (hK.heap HB25.out trivial)
    have cw3 := blk_cell (hK.heap HB35.out trivial)
    have cwb := blk_cell (hK.heap HBb5.out trivial)
    have hwd := hMW.word rfl hxg
    obtain ⟨q, hq⟩ : ∃ q, x.val = q := ⟨_, rfl⟩
    rw [hq] at hwd hxg
    simp only [hq]
    have HQ := hid hq
    clear hq
    have hg1 := HP.out.g1
    have j0 : (0 : Int) ≤ (q : Int) := by omega
    have j1 : (q : Int) < (M.g : Int) := by omega
    have j2 : (M.g : Int) ≤ 1024 := by omega
    have hMt : ∀ k w, CallsIn Fence.wide k Tryz.prog 67 #[.int .u64 (wd (grp M.ctrl q)), .int .u8 ((X : Int) % 128)] w fun e w' => e = .returned (.int .u8 (bitsOf (fun b => b == X % 128) (grp M.ctrl q))) ∧ w' = w := fun k w => by
      have := match_any (grp M.ctrl q) (HP.out.gb q) (HP.out.g8 hxg) (X % 128) (by omega) w
      rw [show ((X % 128 : Nat) : Int) = (X : Int) % 128 from by omega] at this
      exact callsIn_wide.2 this
    have hEt : ∀ k w, CallsIn (Fence.wide.inRound l) k Tryz.prog 40 #[.int .u64 (wd (grp M.ctrl q))] w fun e w' => e = .returned (.int .u8 (bitsOf (fun b => b == 128) (grp M.ctrl q))) ∧ w' = w := fun k w => CallsIn.inRound l (callsIn_wide.2 (empties_any (grp M.ctrl q) (HP.out.gb q) (HP.out.g8 hxg) w))
    have hS0 := bits_lt (fun b => b == X % 128) (grp M.ctrl q)
    have hE0 := bits_lt (fun b => b == 128) (grp M.ctrl q)
    rw [HP.out.g8 hxg] at hS0 hE0
    have hhit : Hid (hitAt M (X % 128) key q = (els (bitsOf (fun b => b == X % 128) (grp M.ctrl q))).find? fun i => decide ((M.slots.getD (8 * q + i) zslot).1 = key)) := hid rfl
    have hfl : Hid (∀ rest, findL M (X % 128) key (q :: rest) = match hitAt M (X % 128) key q with
      | some i => some (8 * q + i)
      | none => if bitsOf (fun b => b == 128) (grp M.ctrl q) = 0 then findL M (X % 128) key rest else none) := hid fun rest => rfl
    obtain ⟨S0, hS⟩ : ∃ S0, bitsOf (fun b => b == X % 128) (grp M.ctrl q) = S0 := ⟨_, rfl⟩
    obtain ⟨E0, hE⟩ : ∃ E0, bitsOf (fun b => b == 128) (grp M.ctrl q) = E0 := ⟨_, rfl⟩
    obtain ⟨wq, hwq⟩ : ∃ wq, wd (grp M.ctrl q) = wq := ⟨_, rfl⟩
    rw [hS] at hMt hS0 hhit
    rw [hE] at hEt hE0 hfl
    rw [hwq] at hMt hEt hwd
    clear hS hE hwq
    have HMt := hid hMt; have HEt := hid hEt; have HK := hid hK; have HF := hid hF; have HMW := hid hMW
    have hf1 : Fence.wide.fn 67 := trivial
    have hf2 : Fence.wide.fn 40 := trivial
    have hf3 : Fence.wide.fn 69 := trivial
    have hf4 : Fence.wide.fn 68 := trivial
    have hsz5' := hsz5
    clear hMt hEt hK hF hMW
    gi_wp2
    refine wpIn_region_quietR (F := Fence.wide) (by kernel_rfl) (by kernel_rfl) (by kernel_rfl) ?_
    repeat (quiet_step_in ((gi_at_call 67; refine CallsIn.quiet_of_same (HMt.out _ _))))
    refine wpQuietIn_nil ?_
    intro _ hw'
    obtain ⟨nq, hw''⟩ := hw'
    subst hw''
    clear HMt
    gi_wp2
    gi_loopw [9] (fun v wr => ∃ st : Nat, v = .int .u8 st ∧ st < 256 ∧ Hid (((els st).find? fun i => decide ((M.slots.getD (8 * q + i) zslot).1 = key)) = hitAt M (X % 128) key q) ∧ Kp All W wr)
      (fun v _ => (els (ivl v).toNat).length)
    case atStart => exact ⟨S0, rfl, hS0, hid hhit.out.symm, (Kp.refl _ _).drewN _⟩
    case round =>
      obtain ⟨st, rfl, hst, hfd, hkr⟩ := hrel
      have hMR := HMW.out.all hkr
      have hcr := blk_cell hMR.str
      have cr2 := blk_cell ((HK.out.trans hkr).heap HB25.out trivial)
      have cr3 := blk_cell ((HK.out.trans hkr).heap HB35.out trivial)
      have crb := blk_cell ((HK.out.trans hkr).heap HBb5.out trivial)
      have hra := (HK.out.trans hkr).heap HBA5.out trivial
      have cra := blk_cell hra
      have fra := blk_free hra
      have HRA := hid hra
      have hwr := hkr.cell hwd trivial
      have HKR := hid hkr
      clear hra hkr
      by_cases hz : st = 0
      · subst hz
        have d1 : ((0 : Int) != 0) = false := rfl
        have hno : hitAt M (X % 128) key q = none := by rw [← hfd.out, els_zero]; rfl
        clear hfd hst
        by_cases hE : E0 = 0
        · have d2 : ((E0 : Int) != 0) = false := by rw [hE]; rfl
          have hfin : Hid (∀ rest, findL M (X % 128) key ((pre ++ [x]).map (·.val) ++ rest) = findL M (X % 128) key rest) := hid fun rest => by
            rw [List.map_append, List.append_assoc]
            show findL M (X % 128) key (pre.map (·.val) ++ (x.val :: rest)) = _
            rw [HF.out, HQ.out, hfl.out, hno, if_pos hE]
          clear hfl HF hno
          gi_wp2_with (gi_at_call 40; refine (HEt.out _ _).mono ?_; rintro e w1 ⟨rfl, rfl⟩)
          exact ⟨kf_of HKR.out, Kc.of HKR.out, HK.out.trans HKR.out, hfin.out⟩
        · have d2 : ((E0 : Int) != 0) = true := by simp; omega
          have hfin : Hid (∀ rest, findL M (X % 128) key ((pre ++ [x]).map (·.val) ++ rest) = none) := hid fun rest => by
            rw [List.map_append, List.append_assoc]
            show findL M (X % 128) key (pre.map (·.val) ++ (x.val :: rest)) = _
            rw [HF.out, HQ.out, hfl.out, hno, if_neg hE]
          clear hfl HF hno
          gi_wp2_with (gi_at_call 40; refine (HEt.out _ _).mono ?_; rintro e w1 ⟨rfl, rfl⟩)
          exact ⟨kf_of HKR.out, rfl, none, HRA.out, (HK.out.trans HKR.out).all, hfin.out⟩
      · obtain ⟨i, hi, hi8⟩ := els_next ⟨st, hst⟩ hz
        simp only at hi
        have d1 : ((st : Int) != 0) = true := by simp; omega
        have hjg : 8 * q + i < 8 * M.g := by omega
        obtain ⟨hs1, _⟩ := hMR.slot HP.out.slen hjg
        have hF1 : ∀ k w, CallsIn (Fence.wide.inRound l) k Tryz.prog 69 #[.int .u8 st] w fun e w' => e = .returned (.int .i64 i) ∧ w' = w := fun k w => CallsIn.inRound l (callsIn_wide.2 (first_any st i _ hst hi w))
        have hN1 : ∀ k w, CallsIn (Fence.wide.inRound l) k Tryz.prog 68 #[.int .u8 st] w fun e w' => ∃ s', e = .returned (.int .u8 (s' : Nat)) ∧ s' < 256 ∧ els s' = els (st &&& (st - 1)) ∧ w' = w := fun k w => CallsIn.inRound l (callsIn_wide.2 (next_any st i _ hst hi w))
        have HF1 := hid hF1; have HN1 := hid hN1
        have HI := hid hi
        obtain ⟨j, hj⟩ : ∃ j, 8 * q + i = j := ⟨_, rfl⟩
        have hjI : 8 * (q : Int) + (i : Int) = (j : Int) := by omega
        rw [hj] at hs1 hjg
        have HJ := hid hj
        have g0 : (0 : Int) ≤ (j : Int) := by omega
        have g1 : (j : Int) < 8 * (M.g : Int) := by omega
        obtain ⟨kk, hkk⟩ : ∃ kk, (M.slots.getD j zslot).1 = kk := ⟨_, rfl⟩
        rw [hkk] at hs1
        have HKK := hid hkk
        have HH := hid hfl; have HFD := hid hfd
        clear hF1 hN1 hi hj hkk hfl hfd
        by_cases hkey2 : kk = key
        · have e1 : (kk.toList == key.toList) = true := by rw [hkey2]; simp
          gi_wp2_with (gi_at_call 69; refine (HF1.out _ _).mono ?_; rintro e w1 ⟨rfl, rfl⟩)
          refine wpIn_region_quietR (F := Fence.wide) (by kernel_rfl) (by kernel_rfl) (by kernel_rfl) ?_
          repeat (quiet_step_in (fail))
          refine wpQuietIn_nil ?_
          intro _ hw'
          obtain ⟨nq, hw''⟩ := hw'
          subst hw''
          gi_wp2
          have hit : hitAt M (X % 128) key q = some i := by
            rw [← HFD.out, HI.out, List.find?_cons_of_pos]
            simp only [decide_eq_true_eq]
            rw [HJ.out, HKK.out, hkey2]
          have hfin : ∀ rest, findL M (X % 128) key ((pre ++ [x]).map (·.val) ++ rest) = some j := fun rest => by
            rw [List.map_append, List.append_assoc]
            show findL M (X % 128) key (pre.map (·.val) ++ (x.val :: rest)) = _
            rw [HF.out, HQ.out, HH.out, hit]
            simp only [HJ.out]
          have hkw : Kp (fun k => k ≠ W2.heap.size) W ((w1.drewN nq).setCell ⟨W2.heap.size, 0, none⟩ (.int .i64 (j : Nat))) := ((HKR.out.drewN nq).all).setOut (by simp) _
          exact ⟨kf_ne hkw (by omega), rfl, some j, blk_set (w := w1.drewN nq) HRA.out 0 _, (HK.out.all).trans hkw, hfin⟩
        · have e1 : (kk.toList == key.toList) = false := toList_ne hkey2
          gi_wp2_with (gi_at_call 69; refine (HF1.out _ _).mono ?_; rintro e w1 ⟨rfl, rfl⟩)
          refine wpIn_region_quietR (F := Fence.wide) (by kernel_rfl) (by kernel_rfl) (by kernel_rfl) ?_
          repeat (quiet_step_in (fail))
          refine wpQuietIn_nil ?_
          intro _ hw'
          obtain ⟨nq, hw''⟩ := hw'
          subst hw''
          gi_wp2_with (gi_at_call 68; refine (HN1.out _ _).mono ?_; rintro e w2 ⟨s', rfl, hs', he', rfl⟩; have HS' := hid he'; clear he')
          go_roundw
          case rel =>
            refine ⟨s', rfl, hs', hid ?_, HKR.out.drewN nq⟩
            rw [HS'.out, ← HFD.out, HI.out, List.find?_cons_of_neg]
            simp only [decide_eq_true_eq]
            rw [HJ.out, HKK.out]
            exact hkey2
          case measure =>
            simp only [ivl, Int.toNat_natCast]
            rw [HS'.out, HI.out]
            simp
  case done =>
    rintro D ys W hD hS ⟨hK, hF⟩ hDD
    have hfin : findP (sipP k0 k1) M key = none := by
      have := hF []
      rw [hS, List.append_nil] at this
      unfold findP
      rw [HX.out, this, findL]
    have hra := hK.heap HBA5.out trivial
    have cra := blk_cell hra
    have HKW := hid hK
    have HD := hid hDD
    clear hK hF hDD
    go_wp2_with fail
    refine ⟨by simp, .inl ⟨_, _, rfl, run_takeDeferred HD.out, ?_⟩⟩
    refine ⟨_, results_tmp rfl _ _ _, ?_, ?_⟩
    · rw [hfin]; rfl
    · exact (HK5.out.trans HKW.out).setHeap (fun h => by have := HK5.out.size; omega) _
  case stop =>
    rintro D c pre W hD hS ⟨rfl, r, h1, h2, h3⟩ hDD
    have hfin : findP (sipP k0 k1) M key = r := by
      obtain ⟨t, ht, hpre⟩ := hS
      have := h3 ((seqP (X / 128) M.g).drop (t + 1))
      rw [hpre, List.take_append_drop] at this
      unfold findP
      rw [HX.out, this]
    have cra := blk_cell h1
    have HKW := hid h2
    have HD := hid hDD
    clear h2 h3 hDD
    gi_wp2
    go_wp2_with fail
    refine ⟨by simp, .inl ⟨_, _, rfl, run_takeDeferred HD.out, ?_⟩⟩
    refine ⟨_, results_tmp rfl _ _ _, ?_, ?_⟩
    · rw [hfin]; rfl
    · have z0 := HK0.out.size
      have z2 := HK2.out.size
      exact (HK5.out.then HKW.out (fun i hi _ => by omega)).setHeap (fun h => by have := HK5.out.size; omega) _
end Go.Proofs.YtodledidabdkaaaGreatDoor

namespace Go.Proofs.YtodledidabdkaaaGreatDoor
open Go.RowKit Go.RegionLast
set_option linter.unusedVariables false
set_option linter.unusedSimpArgs false
section
variable {F : Fence} {m : Nat} {P : Program} {Q : Exit → Act → World → Prop}
def LastQIn (F : Fence) (m : Nat) (P : Program) (ops : Array Oper) (tl : List Oper) (Q : Exit → Act → World → Prop) : Exit → Act → World → Prop
  | .normal, a, w => wpListIn F m P ops Q tl a w
  | e, a, w => Q e a w
theorem uponIn_swap {o : Oper} {a : Act} {w : World} {K K' : Act → World → Prop} {Q Q' : Exit → Act → World → Prop} (hK : ∀ a w, K a w → K' a w) (hQ : ∀ e a w, e ≠ .normal → Q e a w → Q' e a w) (h : o.wpIn F m P a w K Q) : o.wpIn F m P a w K' Q' := by
  unfold Oper.wpIn at *
  refine ⟨h.1, ?_⟩
  have h := h.2
  generalize (o.semAt F.round a.eval).run P w = r at *
  cases r with
  | ok n w' =>
    cases n <;> simp only [Oper.uponIn] at h ⊢
    case value u => exact hK _ _ h
    case skip => exact hK _ _ h
    case defer d => exact hK _ _ h
    case enter f args =>
      refine ⟨h.1, CallsIn.mono h.2 fun e w'' he => ?_⟩
      cases e with
      | returned u => exact hK _ _ he
      | panicked c => exact hQ _ _ _ (by simp) he
      | outgrown => exact let ⟨a, w, h⟩ := (he : LetsOut _); (⟨a, w, hQ _ _ _ (by simp) h⟩ : LetsOut _)
    case row row args => exact ⟨h.1, RowsIn.mono h.2 fun u w'' he => hK _ _ he⟩
    case round l f tmps assign body =>
      refine ⟨h.1, RoundIn.mono h.2 fun e w'' he => ?_⟩
      cases e with
      | returned u => exact hK _ _ he
      | panicked c => exact hQ _ _ _ (by simp) he
      | outgrown => exact let ⟨a, w, h⟩ := (he : LetsOut _); (⟨a, w, hQ _ _ _ (by simp) h⟩ : LetsOut _)
  | halt x w' =>
    cases x <;> simp only [Oper.uponIn] at h ⊢
    case panic u => exact hQ _ _ _ (by simp) h
theorem wpOpIn_swap2 {ops ops' : Array Oper} {i : Nat} {o : Oper} {a : Act} {w : World} {K K' : Act → World → Prop} {Q Q' : Exit → Act → World → Prop} (ho : ops[i]? = some o) (ho' : ops'[i]? = some o) (hg : o.guard = none) (hK : ∀ a w, K a w → K' a w) (hQ : ∀ e a w, e ≠ .normal → Q e a w → Q' e a w)
    (h : wpOpIn F m P ops Q i K a w) : wpOpIn F m P ops' Q' i K' a w := by
  have hw : ∀ y, Region.wanted o y = true := fun y => by simp [Region.wanted, hg]
  unfold wpOpIn at *
  simp only [ho, ho', hw, if_true] at h ⊢
  exact uponIn_swap hK hQ h
theorem wpAnyIn_done2 {md : Region.Mode} {ops : Array Oper} {L : Array Bool} {a : Act} {w : World} (h0 : Region.ready md ops L = []) (h : Q .normal a w) : ∀ fuel, wpAnyIn F m P md ops Q fuel L a w
  | 0 => ⟨h0, h⟩
  | fuel + 1 => ⟨fun _ => h, fun i hi => by rw [h0] at hi; cases hi⟩
theorem any_lastIn {l : List Oper} {n : Nat} (H : Last l n) {Q : Exit → Act → World → Prop} : ∀ (fuel : Nat) (L : Array Bool) (a : Act) (w : World), L.size = n → Down l n L →
    wpAnyIn F m P .any (l.take n).toArray (LastQIn F m P l.toArray (l.drop n) Q) fuel L a w → wpAnyIn F m P .any l.toArray Q (fuel + 1) (L.push false) a w := by
  obtain ⟨ol, hol⟩ : ∃ o, l[n]? = some o := ⟨_, List.getElem?_eq_getElem (by rw [H.size]; omega)⟩
  have hdrop : l.drop n = [ol] := by
    rw [List.drop_eq_getElem_cons (by rw [H.size]; omega), List.drop_eq_nil_of_le (by rw [H.size]; omega)]
    congr 1
    have := List.getElem?_eq_getElem (l := l) (i := n) (by rw [H.size]; omega)
    rw [this] at hol
    injection hol
  have hgl : ol.guard = none := H.plain ol (List.mem_of_getElem? hol)
  have hwl : ∀ y, Region.wanted ol y = true := fun y => by simp [Region.wanted, hgl]
  have hdone : ∀ (L : Array Bool), L.size = n → (∀ j, j < n → L.getD j true = true) → Region.ready .any l.toArray ((L.push false).setIfInBounds n true) = [] := by
    intro L hL hall
    refine List.eq_nil_iff_forall_not_mem.2 fun j hj => ?_
    obtain ⟨h0, o, ho, _⟩ := mem_ready.1 hj
    have hjn : j < n + 1 := by
      have := (List.getElem?_eq_some_iff.1 (by simpa using ho)).1
      rw [H.size] at this
      exact this
    by_cases hj2 : j = n
    · subst hj2
      simp [hL] at h0
    · rw [getD_set_ne true (Ne.symm hj2), getD_push_lt _ _ (by omega), hall j (by omega)] at h0
      cases h0
  have hlast : ∀ (fuel : Nat) (L : Array Bool) (a : Act) (w : World), L.size = n → (∀ j, j < n → L.getD j true = true) → LastQIn F m P l.toArray (l.drop n) Q .normal a w → wpOpIn F m P l.toArray Q n (wpAnyIn F m P .any l.toArray Q fuel ((L.push false).setIfInBounds n true)) a w := by
    intro fuel L a w hL hall h
    rw [hdrop] at h
    unfold LastQIn wpListIn at h
    simp only [hwl, if_true] at h
    unfold wpOpIn
    simp only [List.getElem?_toArray, hol, hwl, if_true]
    refine uponIn_swap (fun a w h => ?_) (fun _ _ _ _ h => h) h
    exact wpAnyIn_done2 (hdone L hL hall) (by simpa [wpListIn] using h) fuel
  intro fuel
  induction fuel with
  | zero =>
    intro L a w hL hd h
    have hall := all_of_none H h.1
    refine ⟨fun h0 => ?_, fun i hi => ?_⟩
    · have := (ready_last H hL hd).2 hall
      rw [h0] at this
      cases this
    · by_cases hin : i = n
      · subst hin
        exact hlast 0 L a w hL hall h.2
      · have hlt : i < n := by
          obtain ⟨_, o, ho, _⟩ := mem_ready.1 hi
          have := (List.getElem?_eq_some_iff.1 (by simpa using ho)).1
          rw [H.size] at this
          omega
        rw [ready_lt H hL hlt, h.1] at hi
        cases hi
  | succ fuel ih =>
    intro L a w hL hd h
    refine ⟨fun h0 => ?_, fun i hi => ?_⟩
    · by_cases hr : Region.ready .any (l.take n).toArray L = []
      · have := (ready_last H hL hd).2 (all_of_none H hr)
        rw [h0] at this
        cases this
      · obtain ⟨i, hi⟩ := List.exists_mem_of_ne_nil _ hr
        have := (ready_lt H hL (ready_init_lt hi)).2 hi
        rw [h0] at this
        cases this
    · by_cases hin : i = n
      · subst hin
        have hall := (ready_last H hL hd).1 hi
        have hnil : Region.ready .any (l.take i).toArray L = [] := by
          refine List.eq_nil_iff_forall_not_mem.2 fun j hj => ?_
          have h1 := (mem_ready.1 hj).1
          rw [hall j (ready_init_lt hj)] at h1
          cases h1
        exact hlast _ L a w hL hall (h.1 hnil)
      · have hlt : i < n := by
          obtain ⟨_, o, ho, _⟩ := mem_ready.1 hi
          have := (List.getElem?_eq_some_iff.1 (by simpa using ho)).1
          rw [H.size] at this
          omega
        have hi' := (ready_lt H hL hlt).1 hi
        obtain ⟨o, ho⟩ : ∃ o, l[i]? = some o := ⟨_, List.getElem?_eq_getElem (by rw [H.size]; omega)⟩
        refine wpOpIn_swap2 (ops := (l.take n).toArray) (by simpa [List.getElem?_take, hlt] using ho) (by simpa using ho) (H.plain o (List.mem_of_getElem? ho)) (fun a w h => ?_) (fun e a w he h => ?_) (h.2 i hi')
        · have h2 := ih (L.setIfInBounds i true) a w (by simpa using hL) (fun j oj hj hoj hlj e he hb => by
            by_cases hei : i = e.on
            · subst hei
              simp [show e.on < L.size from by omega]
            · rw [getD_set_ne false hei]
              by_cases hji : i = j
              · subst hji
                obtain ⟨_, o2, ho2, h2⟩ := mem_ready.1 hi'
                have e2 : o2 = oj := by
                  rw [take_get hlt] at ho2
                  simp only [List.getElem?_toArray] at ho2
                  rw [hoj] at ho2
                  exact (Option.some.inj ho2).symm
                subst e2
                exact h2 e he hb
              · rw [getD_set_ne false hji] at hlj
                exact hd j oj hj hoj hlj e he hb) h
          have e1 : (L.setIfInBounds i true).push false = (L.push false).setIfInBounds i true := by
            apply Array.ext_getElem?
            intro j
            simp only [Array.getElem?_push, Array.getElem?_setIfInBounds, Array.size_setIfInBounds, Array.size_push]
            by_cases e1 : j = L.size
            · subst e1
              have : i ≠ L.size := by omega
              simp [this]
            · by_cases e2 : i = j
              · subst e2
                simp [e1, show i < L.size from by omega, show i < L.size + 1 from by omega]
              · simp [e1, e2]
          rw [← e1]
          exact h2
        · cases e <;> first | exact absurd rfl he | exact h
theorem wpIn_region_lastR {id : Nat} {a : Act} {w : World} {l : List Oper} {l0 : Nat} (hm : P.follows .mixedOrders = true) (hB : lastB l (l.length - 1) = true) (hq : Region.lexB .any (l.take (l.length - 1)).toArray = true) (hnd : noDefer (l.take (l.length - 1)) = true)
    (h : wpQuietIn F m P (l.take (l.length - 1)).toArray (fun w' => ∃ n, w' = w.drewN n) (fun a' => ∀ w', (∃ n, w' = w.drewN n) → wpListIn (F.inRound l0) m P l.toArray Q (l.drop (l.length - 1)) a' w') (l.take (l.length - 1)) a) : (Code.region id l.toArray true).wpIn (F.inRound l0) m P Q a w := by
  obtain ⟨n, hn⟩ : ∃ n, l.length - 1 = n := ⟨_, rfl⟩
  rw [hn] at hB hq hnd h
  have H := lastB_spec hB
  refine wpIn_region_any hm ?_
  have hlen : (l.take n).length = n := by rw [List.length_take, H.size]; omega
  have h1 : wpAnyIn (F.inRound l0) m P .any (l.take n).toArray (LastQIn (F.inRound l0) m P l.toArray (l.drop n) Q) n (Array.replicate n false) a { w with drawn := w.drawn + 1 } := by
    simp only [Region.lexB, Bool.and_eq_true] at hq
    refine wpAnyIn_of_quietR (F := F) (C := fun w' => ∃ n, w' = w.drewN n) (Q := fun a' => ∀ w', (∃ n, w' = w.drewN n) → wpListIn (F.inRound l0) m P l.toArray Q (l.drop n) a' w') (by simpa using hnd) (fun _ w' hw' h => h w' hw') _ _ _ _ ⟨1, rfl⟩ ?_
    have := wpAnyQIn_lex (F := F) (n := m) (C := fun w' => ∃ n, w' = w.drewN n) (md := .any) hq.1 (l.take n) 0 (Array.replicate n false) a (by simp) (by rw [hlen]; simpa [hlen] using hq.2) h
    rw [hlen] at this
    exact this
  have := any_lastIn H n (Array.replicate n false) a _ (by simp) (fun j o hj ho hl => by simp [hj] at hl) h1
  rw [show l.toArray.size = n + 1 from by simp [H.size], Array.replicate_succ]
  exact this
end
end Go.Proofs.YtodledidabdkaaaGreatDoor
