/- The probe's functions walked: Good, Seq's closure: for every loop that keeps the two boxes. -/
import Derived.Test.YtodledidabdkaaaDoorVK
import Derived.RangeFuncBox
import Derived.RangeFuncLeaves
import Derived.RangeFuncOne
import Derived.Shelf.Abstract
import Derived.OwnWalkIn
import Derived.TacticsInMore
import Derived.LoopNIn
import Derived.LoopIn
import Derived.BigRegionIn
import Derived.Shelf.SlIterI.Stops
namespace Go.Proofs.YtodledidabdkaaaDoor
open Go.RowKit Go.Shelf V
set_option linter.unusedVariables false
set_option linter.unusedSimpArgs false
attribute [local go_sem] Oper.semAt_some
/-- All blocks of cells are kept. -/
structure Kc (w w' : World) : Prop where
  os : w'.os = w.os
  tape : w'.tape = w.tape
  output : w'.output = w.output
  size : w.heap.size ≤ w'.heap.size
  cells : ∀ (b : Nat) (cs : Array Value) (t : TypeId) (fz : Nat × Nat), w.heap[b]? = some (Obj.cells cs t fz) → w'.heap[b]? = some (Obj.cells cs t fz)
theorem Kc.refl (w : World) : Kc w w := ⟨rfl, rfl, rfl, Nat.le_refl _, fun _ _ _ _ h => h⟩
theorem Kc.trans {a b c : World} (h : Kc a b) (k : Kc b c) : Kc a c := ⟨k.os.trans h.os, k.tape.trans h.tape, k.output.trans h.output, Nat.le_trans h.size k.size, fun b' cs t fz hb => k.cells b' cs t fz (h.cells b' cs t fz hb)⟩
theorem Kc.of {a b : World} (k : Kp All a b) : Kc a b := ⟨k.os, k.tape, k.output, k.size, fun b' cs t fz hb => k.heap hb trivial⟩
theorem Kc.drewl {a b : World} (h : Kc a.drew b) : Kc a b := ⟨h.os, h.tape, h.output, h.size, h.cells⟩
theorem Kc.putObj {W : World} {l : Nat} {o o' : Obj} (h : W.heap[l]? = some o) (hc : o.isCells = false) : Kc W (W.putObj l o') := by
  refine ⟨rfl, rfl, rfl, by simp [World.putObj], fun b cs t fz hb => ?_⟩
  by_cases e : b = l
  · subst e
    rw [h] at hb
    injection hb with hb
    subst hb
    cases hc
  · exact (World.putObj_heap_other e).trans hb
set_option maxRecDepth 100000 in
theorem good_any (g : Nat) (hg : ∃ k, k ≤ 10 ∧ g = 2 ^ k) (w : World) : Calls Tryd.prog 84 #[.int .i64 g] w fun e w' => e = .returned (.bool true) ∧ w' = w := by
  obtain ⟨k, hk, hp⟩ := hg
  obtain ⟨p1, p2, p3⟩ := pow_good ⟨k, by omega⟩
  simp only [← hp] at p1 p2 p3
  have ha : bits .and .i64 (g : Int) ((g : Int) - 1) = 0 := by
    rw [show (g : Int) - 1 = ((g - 1 : Nat) : Int) from by omega, i64_and_nat g (g - 1) (by omega) (by omega), p3]; rfl
  have d1 : decide ((1 : Int) ≤ (g : Int)) = true := decide_eq_true (by omega)
  have d2 : decide ((g : Int) ≤ 1024) = true := decide_eq_true (by omega)
  clear hp p3
  go_enter Tryd.func84, Tryd.ntmps84
  go_wp2
  go_ret
  exact ⟨rfl, rfl⟩
theorem seq_any (h g : Int) (w : World) : Calls Tryd.prog 56 #[.int .u64 h, .int .i64 g] w fun e w' => e = .returned (.func (.func 83) #[] #[.pointer (some ⟨w.heap.size + 1, 0, none⟩), .pointer (some ⟨w.heap.size, 0, none⟩)]) ∧ w' = (w.alloc (.cells #[.int .u64 h] 26)).alloc (.cells #[.int .i64 g] 3) := by
  go_enter Tryd.func56, Tryd.ntmps56
  go_wp2
  go_ret
  exact ⟨rfl, rfl⟩
def ivl : Value → Int
  | .int _ n => n
  | _ => 0
/-- the group ahead of a step -/
def prevAt (h g : Nat) : Nat → Nat
  | 0 => h % g
  | i + 1 => seqAt h g i
theorem next_at (h g i : Nat) : (prevAt h g i + i) % g = seqAt h g i := by
  cases i with
  | zero => simp [prevAt, seqAt]
  | succ i => rfl
theorem prev_lt (h g i : Nat) (hg : 0 < g) : prevAt h g i < g := by
  cases i with
  | zero => exact Nat.mod_lt _ hg
  | succ i => exact seqAt_lt _ _ _ hg
set_option maxRecDepth 100000 in
set_option maxHeartbeats 2000000 in
theorem seq1_in (n : Nat) (hn : 1 ≤ n) (l h g Bg Bh : Nat) (hg : ∃ k, k ≤ 10 ∧ g = 2 ^ k) (hh : h < 18446744073709551616) (J Jx : List (Fin g) → World → Prop)
    (hY : ∀ pre x W1, J pre W1 → pre.length < g → YieldAt Fence.wide (n - 1) Tryd.prog l #[.int .i64 x.val] W1 fun e W' =>
      (e = .returned (.bool true) ∧ J (pre ++ [x]) W' ∧ Kc W1 W') ∨ (e = .returned (.bool false) ∧ Jx (pre ++ [x]) W'))
    (W : World) (h1 : W.heap[Bg]? = some (.cells #[.int .i64 g] 3 (0, 0))) (h2 : W.heap[Bh]? = some (.cells #[.int .u64 h] 26 (0, 0))) (h0 : J [] W) :
    CallsIn Fence.wide n Tryd.prog 83 #[.func (.yield l) #[] #[], .pointer (some ⟨Bg, 0, none⟩), .pointer (some ⟨Bh, 0, none⟩)] W fun e W' => (∃ v, e = .returned v) ∧
      ((∃ xs : List (Fin g), xs.map (·.val) = seqP h g ∧ J xs W') ∨ (∃ pre : List (Fin g), (∃ t, t < g ∧ pre.map (·.val) = (seqP h g).take (t + 1)) ∧ Jx pre W')) := by
  have hgd := hid (fun w => callsIn_wide (n := n - 1).2 (good_any g hg w))
  obtain ⟨k, hk, hp⟩ := hg
  obtain ⟨p1, p2, p3⟩ := pow_good ⟨k, by omega⟩
  simp only [← hp] at p1 p2 p3
  have hm : bits .and .u64 (h : Int) ((g : Int) - 1) = ((h % g : Nat) : Int) := by
    rw [show (g : Int) - 1 = ((g - 1 : Nat) : Int) from by omega, u64_and_nat _ _ hh (by omega)]
    congr 1
    rw [hp, Nat.and_two_pow_sub_one_eq_mod]
  have ha : ∀ i, i < g → bits .and .i64 ((prevAt h g i : Int) + (i : Int)) ((g : Int) - 1) = ((seqAt h g i : Nat) : Int) := by
    intro i hi
    have := prev_lt h g i (by omega)
    rw [show (g : Int) - 1 = ((g - 1 : Nat) : Int) from by omega, show ((prevAt h g i : Int) + (i : Int)) = ((prevAt h g i + i : Nat) : Int) from by omega, i64_and_nat _ _ (by omega) (by omega), ← next_at h g i]
    congr 1
    conv => lhs; rw [hp, Nat.and_two_pow_sub_one_eq_mod]
    rw [← hp]
  have HA := hid ha
  have hf : Fence.wide.fn 84 := trivial
  have hb1 := blk_cell h1
  have hb2 := blk_cell h2
  have H1 := hid h1; have H2 := hid h2
  have HM := hid hm
  have hml : h % g < g := Nat.mod_lt _ (by omega)
  clear hp p3 ha h1 h2 hm
  refine callsIn_of_wp Tryd.func83 rfl trivial ?_ rfl
  simp only [Tryd.ntmps83, List.size_toArray, List.length_cons, List.length_nil, Nat.reduceAdd, Nat.reduceSub, Array.replicate_succ, Array.replicate_zero, List.push_toArray, List.append_toArray, List.nil_append, List.cons_append]
  gi_wp2_with (gi_at_call 84; refine (hgd.out _).mono ?_; rintro e w1 ⟨rfl, hw⟩; have hw := hw.symm; subst hw)
  gi_loopw [4, 16] (fun a i wr => ∃ (j : Nat) (pre : List (Fin g)), j ≤ g ∧ a = .int .i64 ((prevAt h g j : Nat) : Int) ∧ i = .int .i64 j ∧ Hid (pre.map (·.val) = (seqP h g).take j) ∧ J pre wr ∧ Kc W wr)
    (fun _ i _ => g - (ivl i).toNat)
  case atStart => exact ⟨0, [], Nat.zero_le _, congrArg (Value.int .i64) (by simp only [prevAt]; first | exact HM.out | go_num | (rw [HM.out]; unfold wrap64; omega)), rfl, hid rfl, h0, Kc.refl _⟩
  case round =>
    obtain ⟨j, pre, hj, rfl, rfl, hpre, hJs, hk⟩ := hrel
    have hb1 := blk_cell (hk.cells _ _ _ _ H1.out)
    have hb2 := blk_cell (hk.cells _ _ _ _ H2.out)
    have HK := hid hk
    clear hk
    by_cases hlt : j < g
    · have d1 : decide ((j : Int) < (g : Int)) = true := decide_eq_true (by omega)
      have hpl : pre.length = j := by
        have := congrArg List.length hpre.out
        rw [List.length_map, List.length_take, seqP_len] at this
        omega
      have hx := seqAt_lt h g j (by omega)
      obtain ⟨fn, tmps, assign, body, hy, hR⟩ := hY pre ⟨seqAt h g j, hx⟩ wr hJs (by omega)
      have hpn := prev_lt h g j (by omega)
      have hnew : Hid ((pre ++ [(⟨seqAt h g j, hx⟩ : Fin g)]).map (·.val) = (seqP h g).take (j + 1)) := hid (by
        rw [List.map_append, hpre.out, List.take_add_one, seqP_get hlt]; rfl)
      have hprev : Hid (prevAt h g (j + 1) = seqAt h g j) := hid rfl
      have hA := HA.out j hlt
      simp only at hy
      clear HM HA
      gi_wp2
      refine hR.mono ?_
      rintro e W3 (⟨rfl, hJ3, hk3⟩ | ⟨rfl, hJx3⟩)
      · gi_wp2
        go_roundw
        case rel => exact ⟨j + 1, pre ++ [⟨seqAt h g j, hx⟩], by omega, rfl, by simp, hnew, hJ3, HK.out.trans hk3⟩
        case measure => simp [ivl]; omega
      · gi_wp2
        refine bodyPost_ret (results_none rfl _ _ _) rfl ?_
        exact ⟨⟨_, rfl⟩, .inr ⟨_, ⟨j, hlt, hnew.out⟩, hJx3⟩⟩
    · have d1 : decide ((j : Int) < (g : Int)) = false := decide_eq_false (by omega)
      obtain rfl : j = g := by omega
      gi_wp2
      go_end0
      exact ⟨⟨_, rfl⟩, .inl ⟨pre, by rw [hpre.out, List.take_of_length_le (by rw [seqP_len]; exact Nat.le_refl _)], hJs⟩⟩
theorem seq_stops (n : Nat) (hn : 1 ≤ n) (h g Bg Bh : Nat) (hg : ∃ k, k ≤ 10 ∧ g = 2 ^ k) (hh : h < 18446744073709551616) (w : World) (h1 : w.heap[Bg]? = some (.cells #[.int .i64 g] 3 (0, 0))) (h2 : w.heap[Bh]? = some (.cells #[.int .u64 h] 26 (0, 0))) :
    SeqStopsK Fence.wide n Tryd.prog 83 #[.pointer (some ⟨Bg, 0, none⟩), .pointer (some ⟨Bh, 0, none⟩)] (fun x : Fin g => #[.int .i64 x.val]) Kc (fun ys => ys.map (·.val) = seqP h g) (fun pre => ∃ t, t < g ∧ pre.map (·.val) = (seqP h g).take (t + 1)) g w := fun l J Jx W hW hJ hJx hY h0 =>
  seq1_in n hn l h g Bg Bh hg hh J Jx hY W ((hW.block _ (blk_lt h1)).trans h1) ((hW.block _ (blk_lt h2)).trans h2) h0
end Go.Proofs.YtodledidabdkaaaDoor
