/- The document's probe: Good, At, Seq, Need walked. No condition but that the numbers are of their kinds. The document's map in memory. No condition. The document's map: made and New walked. No condition but that the numbers are of their kinds. The document's map: Find walked. No condition but that the map lies and is sound. -/
import Derived.Test.YtodledidabdkaaaGreatDoorM4
import Derived.Test.YtodledidabdkaaaGreatDoorM1
import Derived.Test.YtodledidabdkaaaGreatDoorM15
import Derived.Test.YtodledidabdkaaaGreatDoorM6
import Derived.Test.YtodledidabdkaaaGreatDoorM5
import Derived.Test.YtodledidabdkaaaGreatDoorM7
set_option linter.unusedVariables false
set_option linter.unusedSimpArgs false
namespace Go.Proofs.YtodledidabdkaaaGreatDoor
open Go.RowKit Go.Shelf V
set_option linter.unusedVariables false
set_option linter.unusedSimpArgs false
set_option maxRecDepth 100000 in
theorem r4good_any (g : Nat) (hg : ∃ k, k ≤ 10 ∧ g = 2 ^ k) (w : World) : Calls Tryz.prog 107 #[.int .i64 g] w fun e w' => e = .returned (.bool true) ∧ w' = w := by
  obtain ⟨k, hk, hp⟩ := hg
  have HP := hid hp
  obtain ⟨p1, p2, _⟩ := pow_good ⟨k, by omega⟩
  simp only [← hp] at p1 p2
  clear hp
  go_enter Tryz.func107, Tryz.ntmps107
  go_wp2_with fail
  go_loopw [3] (fun i wr => ∃ j n : Nat, j ≤ k ∧ i = .int .i64 n ∧ Hid (n = 2 ^ j) ∧ wr = w) (fun i _ => 2000 - (ivl i).toNat)
  case atStart => exact ⟨0, 1, by omega, rfl, hid rfl, rfl⟩
  case round =>
    obtain ⟨j, n, hj, rfl, hn, rfl⟩ := hrel
    obtain ⟨q1, q2, _⟩ := pow_good ⟨j, by omega⟩
    simp only [← hn.out] at q1 q2
    have d0 : decide ((n : Int) ≤ 1024) = true := decide_eq_true (by omega)
    by_cases e : j = k
    · have he : n = g := by rw [hn.out, HP.out, e]
      subst he
      have d1 : ((n : Int) == (n : Int)) = true := by simp
      go_wp2_with fail
      go_ret
      exact ⟨rfl, rfl⟩
    · have hne : n ≠ g := by
        rw [hn.out, HP.out]
        exact fun h => e ((Nat.pow_right_inj (by omega)).1 h)
      have d1 : ((n : Int) == (g : Int)) = false := by simp; omega
      have hw2 : IntKind.i64.wrap ((n : Int) * 2) = (n : Int) * 2 := IntWalk.i64_in _ (by omega)
      clear hne
      go_wp2_with fail
      exact ⟨⟨j + 1, n * 2, by omega, by simp, hid (by rw [hn.out, Nat.pow_succ]), trivial⟩, by simp [ivl]; omega⟩
set_option maxRecDepth 100000 in
theorem r4need_any (n : Nat) (hn : n ≤ 7000) (w : World) : Calls Tryz.prog 29 #[.int .i64 n] w fun e w' => (∃ k, k ≤ 10 ∧ e = .returned (.int .i64 ((2 ^ k : Nat) : Int)) ∧ n ≤ 7 * 2 ^ k ∧ ∀ j, j < k → 7 * 2 ^ j < n) ∧ w' = w := by
  go_enter Tryz.func29, Tryz.ntmps29
  go_wp2_with fail
  go_loopw [3] (fun i wr => ∃ j m : Nat, j ≤ 10 ∧ i = .int .i64 m ∧ Hid (m = 2 ^ j) ∧ Hid (∀ i, i < j → 7 * 2 ^ i < n) ∧ wr = w) (fun i _ => 2000 - (ivl i).toNat)
  case atStart => exact ⟨0, 1, by omega, rfl, hid rfl, hid (fun i hi => by omega), rfl⟩
  case round =>
    obtain ⟨j, m, hj, rfl, hm, hT, rfl⟩ := hrel
    obtain ⟨q1, q2, _⟩ := pow_good ⟨j, by omega⟩
    simp only [← hm.out] at q1 q2
    have d0 : decide ((m : Int) ≤ 1024) = true := decide_eq_true (by omega)
    have hw7 : IntKind.i64.wrap (7 * (m : Int)) = 7 * (m : Int) := IntWalk.i64_in _ (by omega)
    by_cases hlt : 7 * m < n
    · have d1 : decide (7 * (m : Int) < (n : Int)) = true := decide_eq_true (by omega)
      have hw2 : IntKind.i64.wrap ((m : Int) * 2) = (m : Int) * 2 := IntWalk.i64_in _ (by omega)
      have hj9 : j ≤ 9 := by
        rcases Nat.lt_or_ge j 10 with h | h
        · omega
        · have e := hm.out
          rw [show j = 10 from by omega] at e
          omega
      go_wp2_with fail
      refine ⟨⟨j + 1, m * 2, by omega, by simp, hid (by rw [hm.out, Nat.pow_succ]), hid (fun i hi => ?_), trivial⟩, by simp [ivl]; omega⟩
      rcases Nat.lt_or_ge i j with h | h
      · exact hT.out i h
      · rw [show i = j from by omega, ← hm.out]; exact hlt
    · have d1 : decide (7 * (m : Int) < (n : Int)) = false := decide_eq_false (by omega)
      go_wp2_with fail
      go_ret
      exact ⟨⟨j, hj, congrArg (fun z : Nat => Ending.returned (.int .i64 z)) hm.out, by rw [← hm.out]; omega, hT.out⟩, rfl⟩
set_option maxRecDepth 100000 in
theorem r4at_any (h g i : Nat) (hg : ∃ k, k ≤ 10 ∧ g = 2 ^ k) (hh : h < 18446744073709551616) (hi : i < g) (w : World) : Calls Tryz.prog 108 #[.int .u64 h, .int .i64 i, .int .i64 g] w fun e w' => e = .returned (.int .i64 (seqAt h g i)) ∧ w' = w := by
  have HG := hid (fun w => r4good_any g hg w)
  have hg2 : 1 ≤ g ∧ g ≤ 1024 := by
    obtain ⟨k, hk, hp⟩ := hg
    obtain ⟨p1, p2, _⟩ := pow_good ⟨k, by omega⟩
    simp only [← hp] at p1 p2
    exact ⟨p1, p2⟩
  have hs := seqAt_tri h g i
  rw [tri_div] at hs
  have hii : i * (i + 1) ≤ 1024 * 1024 := Nat.mul_le_mul (by omega) (by omega)
  obtain ⟨p, hp⟩ : ∃ p, i * (i + 1) = p := ⟨_, rfl⟩
  rw [hp] at hs hii
  have hp' : (i : Int) * ((i : Int) + 1) = (p : Int) := by rw [← hp]; simp
  obtain ⟨q, hq⟩ : ∃ q, p / 2 = q := ⟨_, rfl⟩
  rw [hq] at hs
  have hq2 : Int.tdiv (p : Int) 2 = (q : Int) := by rw [← hq]; rfl
  obtain ⟨r, hr⟩ : ∃ r, h % g = r := ⟨_, rfl⟩
  have hr2 : Int.tmod (h : Int) (g : Int) = (r : Int) := by rw [← hr]; rfl
  have hrl : r < g := by rw [← hr]; exact Nat.mod_lt _ (by omega)
  have hs2 : seqAt h g i = (r + q) % g := by rw [hs, ← hr, Nat.mod_add_mod]
  have hs3 : Int.tmod ((r : Int) + (q : Int)) (g : Int) = ((seqAt h g i : Nat) : Int) := by rw [hs2, show ((r : Int) + (q : Int)) = ((r + q : Nat) : Int) from by omega]; rfl
  have hsl := seqAt_lt h g i (by omega)
  have a1 : IntKind.i64.wrap ((i : Int) + 1) = (i : Int) + 1 := IntWalk.i64_in _ (by omega)
  have a2 : IntKind.i64.wrap (p : Int) = (p : Int) := IntWalk.i64_in _ (by omega)
  have a3 : IntKind.i64.wrap (q : Int) = (q : Int) := IntWalk.i64_in _ (by omega)
  have a4 : IntKind.u64.wrap (q : Int) = (q : Int) := by rw [wrapn]; omega
  have a5 : IntKind.u64.wrap (g : Int) = (g : Int) := by rw [wrapn]; omega
  have a6 : IntKind.u64.wrap (r : Int) = (r : Int) := by rw [wrapn]; omega
  have a7 : IntKind.u64.wrap ((r : Int) + (q : Int)) = (r : Int) + (q : Int) := by rw [show ((r : Int) + (q : Int)) = ((r + q : Nat) : Int) from by omega, wrapn]; omega
  have g0 : ((g : Int) == 0) = false := by simp; omega
  have HS := hid hs3
  clear hs hs2 hp hq hr hg
  generalize seqAt h g i = z at *
  have a8 : IntKind.u64.wrap (z : Int) = (z : Int) := by rw [wrapn]; omega
  have a9 : IntKind.i64.wrap (z : Int) = (z : Int) := IntWalk.i64_in _ (by omega)
  have d1 : decide ((i : Int) < 0) = false := decide_eq_false (by omega)
  have d2 : decide ((i : Int) < (g : Int)) = true := decide_eq_true (by omega)
  clear hs3
  have hs3 := HS.out
  go_enter Tryz.func108, Tryz.ntmps108
  go_wp2_with fail
  refine (HG.out _).mono ?_
  rintro e w1 ⟨rfl, rfl⟩
  go_wp2_with fail
  go_ret
  exact ⟨rfl, rfl⟩
theorem own_footz {w : World} {base e n c sz : Nat} {A : Option Addr} {xs : List Value} (h : w.ownsRow base e sz (.slice A n c) n xs) : Foot All (Sl A n c sz xs) w := by
  obtain ⟨A', c', e1, hf⟩ := sl_own h
  injection e1 with e1 e2 e3
  subst e1 e3
  exact hf.mono fun _ _ _ => trivial
theorem elN : El Tryz.prog 114 3 1 8 (.int .i64 0) := ⟨Tryz.underlying114, by kernel_rfl, rfl, by decide, by decide⟩
def nvs (l : List Nat) : List Value := l.map fun n : Nat => Value.int .i64 (n : Int)
theorem nvs_one (l : List Nat) : ∀ u ∈ nvs l, u.oneCell' = true := by
  intro u hu
  obtain ⟨x, _, rfl⟩ := List.mem_map.1 hu
  rfl
theorem sl_newn (w : World) (z : Nat) (t : TypeId) : Sl (some ⟨w.heap.size, 0, none⟩) 1 1 1 (nvs [z]) (w.alloc (.cells #[.int .i64 z] t)) := by
  have := sl_new1 w (.int .i64 z) t
  exact this
set_option maxRecDepth 100000 in
theorem r4seq_any (h g : Nat) (hg : ∃ k, k ≤ 10 ∧ g = 2 ^ k) (hh : h < 18446744073709551616) (w : World) : Calls Tryz.prog 75 #[.int .u64 h, .int .i64 g] w fun e w' => ∃ A c, e = .returned (.slice A g c) ∧ Foot All (Sl A g c 1 (nvs (seqP h g))) w' ∧ Kp All w w' := by
  have HG := hid (fun w => r4good_any g hg w)
  have HA := hid (fun i hi w => r4at_any h g i hg hh hi w)
  have hg2 : 1 ≤ g ∧ g ≤ 1024 := by
    obtain ⟨k, hk, hp⟩ := hg
    obtain ⟨p1, p2, _⟩ := pow_good ⟨k, by omega⟩
    simp only [← hp] at p1 p2
    exact ⟨p1, p2⟩
  have g1 := hg2.1; have g2 := hg2.2
  clear hg hg2
  go_enter Tryz.func75, Tryz.ntmps75
  go_wp2_with fail
  refine (HG.out _).mono ?_
  rintro e w1 ⟨rfl, hw⟩
  have hw := hw.symm
  subst hw
  go_wp2_with fail
  go_loopw [5, 6] (fun x i wr => ∃ k : Nat, k ≤ g ∧ i = .int .i64 k ∧ Hid (wr.ownsRow w.heap.size 3 1 x k (nvs ((seqP h g).take k))) ∧ Hid (Kp All w wr)) (fun _ i _ => g - (ivl i).toNat)
  case atStart => exact ⟨0, by omega, rfl, hid (World.ownsRow_nil _ _ _ _), Kp.refl _ _⟩
  case round =>
    obtain ⟨k, hk, rfl, hown, hkp⟩ := hrel
    obtain ⟨A3, c3, rfl⟩ := own_shape hown.out
    by_cases hlt : k < g
    · have d0 : decide ((k : Int) < (g : Int)) = true := decide_eq_true (by omega)
      have HC := hid (HA.out k hlt wr)
      have HS : Hid ((seqP h g).take (k + 1) = (seqP h g).take k ++ [seqAt h g k]) := hid (by rw [List.take_add_one, seqP_get hlt]; rfl)
      go_wp2_with fail
      refine HC.out.mono ?_
      rintro e w2 ⟨rfl, hw⟩
      have hw := hw.symm
      subst hw
      obtain ⟨z, hz⟩ : ∃ z, seqAt h g k = z := ⟨_, rfl⟩
      rw [hz] at HS ⊢
      clear hz
      have hsz := hkp.out.size
      go_wp2_with (at_builtin; go_loud (refine wpList_app elN (World.ownsRow.alloc hown.out _) (sl_newn _ z _) (nvs_one [z]) ?_ ?_ rfl _ _ rfl rfl rfl ?_); omega; (simp only [World.size_alloc]; omega); intro v' w7 hown7 hg7 hob7 hnil7; obtain ⟨A7, c7, rfl⟩ := own_shape hown7; have HOW7 := hid hown7; have HG7 := hid hg7; clear hown7 hg7 hob7 hnil7)
      refine ⟨⟨k + 1, by omega, by go_num, hid ?_, hid ((hkp.out.alloc _).then (Kp.grown HG7.out) (fun i hi _ e => by have := (hown.out.lt i e.symm).1; omega))⟩, by simp [ivl]; omega⟩
      have h1 := HOW7.out
      rw [HS.out, show nvs ((seqP h g).take k ++ [z]) = nvs ((seqP h g).take k) ++ nvs [z] from by simp [nvs]]
      exact h1
    · have d0 : decide ((k : Int) < (g : Int)) = false := decide_eq_false (by omega)
      have hkg : k = g := by omega
      have ho := hown.out
      rw [List.take_of_length_le (by simp [seqP]; omega)] at ho
      rw [hkg] at ho ⊢
      have HO := hid (own_footz ho)
      clear hkg ho
      go_wp2_with fail
      go_ret
      exact ⟨A3, c3, rfl, HO.out, hkp.out⟩
end Go.Proofs.YtodledidabdkaaaGreatDoor

namespace Go.Proofs.YtodledidabdkaaaGreatDoor
open Go.RowKit Go.Shelf V
set_option linter.unusedVariables false
set_option linter.unusedSimpArgs false
/-- A map of g groups lies, its numbers as they stand: its struct in block bm, its words in bw, its slots in bs. -/
structure Qr (k0 k1 bm bw cw bs cs g : Nat) (c : List Nat) (l : List Slot) (n t : Int) (w : World) : Prop where
  str : w.heap[bm]? = some (.cells #[.int .u64 k0, .int .u64 k1, .slice (some ⟨bw, 0, none⟩) g cw, .slice (some ⟨bs, 0, none⟩) (8 * g) cs, .int .i64 n, .int .i64 t] 63 (0, 0))
  wds : ∃ cur, w.heap[bw]? = some (.cells cur 22 (0, 0)) ∧ cur.size = cw ∧ cur.toList.take g = wcs c
  sls : ∃ cur, w.heap[bs]? = some (.cells cur 75 (0, 0)) ∧ cur.size = cs * 2 ∧ cur.toList.take (8 * g * 2) = scs l
  cwl : g ≤ cw
  csl : 8 * g ≤ cs
  cwm : cw ≤ 9223372036854775807
  csm : cs ≤ 9223372036854775807
  d1 : bm ≠ bw
  d2 : bm ≠ bs
  d3 : bw ≠ bs
section
variable {k0 k1 bm bw cw bs cs g : Nat} {c : List Nat} {l : List Slot} {n t : Int} {w w' : World}
theorem Qr.kept {S : Nat → Prop} (h : Qr k0 k1 bm bw cw bs cs g c l n t w) (k : Kp S w w') (h1 : S bm) (h2 : S bw) (h3 : S bs) : Qr k0 k1 bm bw cw bs cs g c l n t w' := by
  obtain ⟨c1, e1, e2, e3⟩ := h.wds
  obtain ⟨c2, f1, f2, f3⟩ := h.sls
  exact { h with str := k.heap h.str h1, wds := ⟨c1, k.heap e1 h2, e2, e3⟩, sls := ⟨c2, k.heap f1 h3, f2, f3⟩ }
theorem Qr.all (h : Qr k0 k1 bm bw cw bs cs g c l n t w) (k : Kp All w w') : Qr k0 k1 bm bw cw bs cs g c l n t w' := h.kept k trivial trivial trivial
theorem Qr.word (h : Qr k0 k1 bm bw cw bs cs g c l n t w) (hg : c.length / 8 = g) {q : Nat} (hq : q < g) : w.cell? ⟨bw, q, none⟩ = some (.int .u64 (wd (grp c q))) := by
  obtain ⟨c1, e1, e2, e3⟩ := h.wds
  rw [blk_cell e1, ← Array.getElem?_toList]
  have := wcs_get (c := c) (q := q) (by omega)
  rw [← e3, List.getElem?_take, if_pos hq] at this
  exact this
theorem Qr.slot (h : Qr k0 k1 bm bw cw bs cs g c l n t w) (hl : l.length = 8 * g) {i : Nat} (hi : i < 8 * g) : w.cell? ⟨bs, i * 2, none⟩ = some (.string (l.getD i zslot).1) ∧ w.cell? ⟨bs, i * 2 + 1, none⟩ = some (.string (l.getD i zslot).2) := by
  obtain ⟨c2, f1, f2, f3⟩ := h.sls
  have hs : l[i]? = some (l.getD i zslot) := by
    rw [List.getD_eq_getElem?_getD, List.getElem?_eq_getElem (by omega)]; rfl
  obtain ⟨h1, h2⟩ := scs_get hs
  rw [← f3, List.getElem?_take, if_pos (by omega)] at h1 h2
  exact ⟨by rw [blk_cell f1, ← Array.getElem?_toList]; exact h1, by rw [blk_cell f1, ← Array.getElem?_toList]; exact h2⟩
theorem Qr.setW (h : Qr k0 k1 bm bw cw bs cs g c l n t w) (hg : c.length / 8 = g) {q j x : Nat} (hj : j < 8) (hq : q < g) : Qr k0 k1 bm bw cw bs cs g (c.set (8 * q + j) x) l n t (w.setCell ⟨bw, q, none⟩ (.int .u64 (wd ((grp c q).set j x)))) := by
  obtain ⟨c1, e1, e2, e3⟩ := h.wds
  obtain ⟨c2, f1, f2, f3⟩ := h.sls
  refine { h with str := blk_far h.str h.d1 _, wds := ⟨_, blk_set e1 q _, by simpa using e2, ?_⟩, sls := ⟨c2, blk_far f1 (Ne.symm h.d3) _, f2, f3⟩ }
  rw [wcs_set hj (by omega), ← e3]
  simp only [Array.toList_setIfInBounds, List.take_set]
theorem Qr.setS (h : Qr k0 k1 bm bw cw bs cs g c l n t w) (i : Nat) (s : Slot) : Qr k0 k1 bm bw cw bs cs g c (l.set i s) n t ((w.setCell ⟨bs, i * 2, none⟩ (.string s.1)).setCell ⟨bs, i * 2 + 1, none⟩ (.string s.2)) := by
  obtain ⟨c1, e1, e2, e3⟩ := h.wds
  obtain ⟨c2, f1, f2, f3⟩ := h.sls
  refine { h with str := blk_far (blk_far h.str h.d2 _) h.d2 _, wds := ⟨c1, blk_far (blk_far e1 h.d3 _) h.d3 _, e2, e3⟩, sls := ⟨_, blk_set (blk_set f1 _ _) _ _, by simpa using f2, ?_⟩ }
  rw [scs_set, ← f3]
  simp only [Array.toList_setIfInBounds, List.take_set]
theorem Qr.setV (h : Qr k0 k1 bm bw cw bs cs g c l n t w) {i : Nat} {s : Slot} (hi : l[i]? = some s) (v : Tx) : Qr k0 k1 bm bw cw bs cs g c (l.set i (s.1, v)) n t (w.setCell ⟨bs, i * 2 + 1, none⟩ (.string v)) := by
  obtain ⟨c1, e1, e2, e3⟩ := h.wds
  obtain ⟨c2, f1, f2, f3⟩ := h.sls
  refine { h with str := blk_far h.str h.d2 _, wds := ⟨c1, blk_far e1 h.d3 _, e2, e3⟩, sls := ⟨_, blk_set f1 _ _, by simpa using f2, ?_⟩ }
  have hself : (scs l).set (i * 2) (.string s.1) = scs l := by
    apply List.ext_getElem?
    intro p
    by_cases e : i * 2 = p
    · subst e
      have := (scs_get hi).1
      rw [List.getElem?_set_self (List.getElem?_eq_some_iff.1 this).1, this]
    · rw [List.getElem?_set_ne e]
  rw [scs_set, hself, ← f3]
  simp only [Array.toList_setIfInBounds, List.take_set]
theorem Qr.setT (h : Qr k0 k1 bm bw cw bs cs g c l n t w) (t' : Int) : Qr k0 k1 bm bw cw bs cs g c l n t' (w.setCell ⟨bm, 5, none⟩ (.int .i64 t')) := by
  obtain ⟨c1, e1, e2, e3⟩ := h.wds
  obtain ⟨c2, f1, f2, f3⟩ := h.sls
  exact { h with str := blk_set h.str 5 _, wds := ⟨c1, blk_far e1 (Ne.symm h.d1) _, e2, e3⟩, sls := ⟨c2, blk_far f1 (Ne.symm h.d2) _, f2, f3⟩ }
theorem Qr.setN (h : Qr k0 k1 bm bw cw bs cs g c l n t w) (n' : Int) : Qr k0 k1 bm bw cw bs cs g c l n' t (w.setCell ⟨bm, 4, none⟩ (.int .i64 n')) := by
  obtain ⟨c1, e1, e2, e3⟩ := h.wds
  obtain ⟨c2, f1, f2, f3⟩ := h.sls
  exact { h with str := blk_set h.str 4 _, wds := ⟨c1, blk_far e1 (Ne.symm h.d1) _, e2, e3⟩, sls := ⟨c2, blk_far f1 (Ne.symm h.d2) _, f2, f3⟩ }
end
/-- The map M lies. -/
abbrev Qs (k0 k1 bm bw cw bs cs : Nat) (M : Mp) (w : World) : Prop := Qr k0 k1 bm bw cw bs cs M.g M.ctrl M.slots M.cnt M.tmb w
/-- A sound map lies at bm; O are its blocks. -/
structure Ql (k0 k1 bm : Nat) (M : Mp) (O : Nat → Prop) (w : World) : Prop where
  ms : ∃ bw cw bs cs, Qs k0 k1 bm bw cw bs cs M w ∧ ∀ b, O b ↔ b = bm ∨ b = bw ∨ b = bs
  inv : Inv (sipP k0 k1) M
  h0 : k0 < 18446744073709551616
  h1 : k1 < 18446744073709551616
  keys : ∀ k v, Has M k v → k.size ≤ 9000000000000000000
theorem Ql.lt {k0 k1 bm : Nat} {M : Mp} {O : Nat → Prop} {w : World} (h : Ql k0 k1 bm M O w) : ∀ b, O b → b < w.heap.size := by
  obtain ⟨bw, cw, bs, cs, hm, hO⟩ := h.ms
  obtain ⟨_, e1, _⟩ := hm.wds
  obtain ⟨_, e2, _⟩ := hm.sls
  intro b hb
  rcases (hO b).1 hb with rfl | rfl | rfl
  · exact blk_lt hm.str
  · exact blk_lt e1
  · exact blk_lt e2
theorem Ql.kept {k0 k1 bm : Nat} {M : Mp} {O S : Nat → Prop} {w w' : World} (h : Ql k0 k1 bm M O w) (k : Kp S w w') (hS : ∀ b, O b → S b) : Ql k0 k1 bm M O w' := by
  obtain ⟨bw, cw, bs, cs, hm, hO⟩ := h.ms
  exact { h with ms := ⟨bw, cw, bs, cs, hm.kept k (hS _ ((hO _).2 (.inl rfl))) (hS _ ((hO _).2 (.inr (.inl rfl)))) (hS _ ((hO _).2 (.inr (.inr rfl)))), hO⟩ }
theorem Ql.all {k0 k1 bm : Nat} {M : Mp} {O : Nat → Prop} {w w' : World} (h : Ql k0 k1 bm M O w) (k : Kp All w w') : Ql k0 k1 bm M O w' := h.kept k (fun _ _ => trivial)
end Go.Proofs.YtodledidabdkaaaGreatDoor

namespace Go.Proofs.YtodledidabdkaaaGreatDoor
open Go.RowKit Go.Shelf V
set_option linter.unusedVariables false
set_option linter.unusedSimpArgs false
theorem elr2 : El Tryz.prog 61 75 2 32 (.agg #[.string ⟨#[]⟩, .string ⟨#[]⟩]) := ⟨Tryz.underlying61, by kernel_rfl, rfl, by decide, by decide⟩
theorem elU : El Tryz.prog 59 22 1 8 (.int .u64 0) := ⟨Tryz.underlying59, by kernel_rfl, rfl, by decide, by decide⟩
theorem mk_rslots (n : Nat) (hn : n ≤ 8192) (w : World) :
    (Instr.makeSlice 61 (.int .i64 (n : Int)) (.int .i64 (n : Int))).run Tryz.prog w = .ok (.slice (some ⟨w.heap.size, 0, none⟩) n n) (w.alloc (.cells (scs (List.replicate n zslot)).toArray 75)) := by
  obtain ⟨i, hi, hz, hs, hb⟩ := info_parts elr2.info
  have := run_make (P := Tryz.prog) w 61 75 i (.agg #[.string ⟨#[]⟩, .string ⟨#[]⟩]) elr2.sl hi hz .i64 .i64 (n : Int) (n : Int) (by omega) (by omega) (by rw [hb]; omega) (by omega)
  rw [this, hs, Int.toNat_natCast, made_slots]
/-- An empty map of the document's is made. -/
def MadeQ (k0 k1 g : Nat) (w : World) (e : Ending) (w' : World) : Prop := ∃ bm bw cw bs cs, e = .returned (.pointer (some ⟨bm, 0, none⟩)) ∧ w.heap.size ≤ bm ∧ w.heap.size ≤ bw ∧ w.heap.size ≤ bs ∧ Qs k0 k1 bm bw cw bs cs (madeP g) w' ∧ Kp All w w'
set_option maxRecDepth 100000 in
set_option maxHeartbeats 1000000 in
theorem r5made_any (k0 k1 g : Nat) (hg1 : 1 ≤ g) (hg : g ≤ 1024) (w : World) : Calls Tryz.prog 30 #[.int .u64 k0, .int .u64 k1, .int .i64 g] w (MadeQ k0 k1 g w) := by
  have hms := mk_rslots (8 * g) (by omega)
  rw [show ((8 * g : Nat) : Int) = 8 * (g : Int) from by omega] at hms
  have hw8 : IntKind.i64.wrap (8 * (g : Int)) = 8 * (g : Int) := IntWalk.i64_in _ (by omega)
  obtain ⟨W1, hW1⟩ : ∃ W1, (w.alloc (.cells (scs (List.replicate (8 * g) zslot)).toArray 75)).alloc (.cells #[.int .u64 k0, .int .u64 k1, .slice none 0 0, .slice (some ⟨w.heap.size, 0, none⟩) (8 * g) (8 * g), .int .i64 0, .int .i64 0] 63) = W1 := ⟨_, rfl⟩
  have k1' : Kp All w W1 := hW1 ▸ (Kp.al _ _).alloc _
  have bs1 := blk_alloc (blk_new w (.cells (scs (List.replicate (8 * g) zslot)).toArray 75)) (.cells #[.int .u64 k0, .int .u64 k1, .slice none 0 0, .slice (some ⟨w.heap.size, 0, none⟩) (8 * g) (8 * g), .int .i64 0, .int .i64 0] 63)
  have bm1 := blk_new (w.alloc (.cells (scs (List.replicate (8 * g) zslot)).toArray 75)) (.cells #[.int .u64 k0, .int .u64 k1, .slice none 0 0, .slice (some ⟨w.heap.size, 0, none⟩) (8 * g) (8 * g), .int .i64 0, .int .i64 0] 63)
  rw [World.size_alloc] at bm1
  rw [hW1] at bs1 bm1
  have hz1 : W1.heap.size = w.heap.size + 2 := by rw [← hW1]; simp
  have BS := hid bs1; have BM := hid bm1; have K1 := hid k1'
  clear bs1 bm1 k1'
  go_enter Tryz.func30, Tryz.ntmps30
  go_wp2_with fail
  go_loopw [8] (fun i wr => ∃ (k : Nat) (v : Value), k ≤ g ∧ i = .int .i64 k ∧ Hid (wr.heap[w.heap.size + 1]? = some (.cells #[.int .u64 k0, .int .u64 k1, v, .slice (some ⟨w.heap.size, 0, none⟩) (8 * g) (8 * g), .int .i64 0, .int .i64 0] 63 (0, 0))) ∧ Hid (wr.ownsRow W1.heap.size 22 1 v k (List.replicate k noneV)) ∧ Hid (Kp (fun b => b ≠ w.heap.size + 1) W1 wr)) (fun i _ => g - (ivl i).toNat)
  case atStart => exact ⟨0, .slice none 0 0, by omega, rfl, BM, hid (World.ownsRow_nil _ _ _ _), Kp.refl _ _⟩
  case round =>
    obtain ⟨k, v, hk, rfl, hbm, hown, hkp⟩ := hrel
    obtain ⟨A3, c3, rfl⟩ := own_shape hown.out
    by_cases hlt : k < g
    · have d0 : decide ((k : Int) < (g : Int)) = true := decide_eq_true (by omega)
      have cm := blk_cell hbm.out; have fm := blk_free hbm.out
      have hsz := hkp.out.size
      go_wp2_with (at_builtin; go_loud (refine wpList_app elU (World.ownsRow.alloc hown.out _) (sl_new1 wr noneV 22) (by intro u hu; rw [List.mem_singleton] at hu; subst hu; rfl) ?_ ?_ rfl _ _ rfl rfl rfl ?_); omega; (simp only [World.size_alloc]; omega); intro v' w7 hown7 hg7 hob7 hnil7; obtain ⟨A7, c7, rfl⟩ := own_shape hown7; have k17 := (show Kp (fun i => i < W1.heap.size) wr w7 from ((Kp.al wr _).all).then (Kp.grown hg7) (fun i hi hl e => by have := (hown.out.lt i e.symm).1; omega)); have hb7 := k17.heap hbm.out (by omega); have c7m := blk_cell hb7; have f7m := blk_free hb7; have HB7 := hid hb7; have HOW7 := hid hown7; have HK7 := hid (show Kp (fun b => b ≠ w.heap.size + 1) W1 w7 from (hkp.out.alloc _).then (Kp.grown hg7) (fun i hi _ e => by have := (hown.out.lt i e.symm).1; omega)); clear hown7 hg7 hob7 hnil7 k17 hb7)
      have hne : ∀ b, (Value.slice A7 (k + 1) c7).ownBlock = some b → b ≠ w.heap.size + 1 := fun b hb => by have := (HOW7.out.lt b hb).1; omega
      have kS : Kp (fun b => b ≠ w.heap.size + 1) w7 (w7.setCell ⟨w.heap.size + 1, 2, none⟩ (.slice A7 (k + 1) c7)) := (Kp.refl _ w7).setOut (by simp) _
      refine ⟨⟨k + 1, .slice A7 (k + 1) c7, by omega, by go_num, hid (blk_set HB7.out 2 _), hid ?_, HK7.out.trans kS⟩, by simp [ivl]; omega⟩
      have h1 := own_kept HOW7.out kS hne
      rw [show List.replicate (k + 1) noneV = List.replicate k noneV ++ [noneV] from List.replicate_succ']
      exact h1
    · have d0 : decide ((k : Int) < (g : Int)) = false := decide_eq_false (by omega)
      have hkg : k = g := by omega
      have ho := hown.out
      rw [hkg] at ho hbm
      have HB := hid hbm.out
      have HO := hid ho
      clear hkg ho hbm
      go_wp2_with fail
      go_ret
      have hbs := hkp.out.heap BS.out (show w.heap.size ≠ w.heap.size + 1 by omega)
      rcases own_at HO.out with ⟨_, e, _⟩ | ⟨gb, cap, cur, e, hgb, hge, _⟩
      · omega
      rcases HO.out.2 with ⟨_, e2⟩ | ⟨gb', cap', cur', e', hge', hgb', hn', hm', hs', ht'⟩
      · omega
      have hbm := HB.out
      rw [e'] at hbm
      have hc := made_cnt g
      refine ⟨w.heap.size + 1, gb', cap', w.heap.size, 8 * g, rfl, by omega, by omega, by omega, ?_, ?_⟩
      · show Qr k0 k1 (w.heap.size + 1) gb' cap' w.heap.size (8 * g) (madeP g).g (madeP g).ctrl (madeP g).slots (madeP g).cnt (madeP g).tmb _
        rw [hc.1, hc.2.1, hc.2.2]
        have hmx : maxLen = 9223372036854775807 := by decide
        refine ⟨hbm, ⟨_, hgb', by omega, ?_⟩, ⟨_, hbs, by simp [scs_rep], ?_⟩, hn', Nat.le_refl _, by omega, by omega, by omega, by omega, by omega⟩
        · rw [wcs_made, ← ht', Nat.mul_one]
        · show (scs (List.replicate (8 * g) zslot)).toArray.toList.take (8 * g * 2) = scs (List.replicate (8 * g) zslot)
          rw [List.take_of_length_le (by simp [scs_rep])]
      · exact K1.out.then hkp.out (fun i hi _ => by omega)
theorem r5new_any (k0 k1 n : Nat) (hn : n ≤ 7000) (w : World) : Calls Tryz.prog 6 #[.int .u64 k0, .int .u64 k1, .int .i64 n] w fun e w' => ∃ k, k ≤ 10 ∧ n ≤ 7 * 2 ^ k ∧ (∀ j, j < k → 7 * 2 ^ j < n) ∧ MadeQ k0 k1 (2 ^ k) w e w' := by
  go_enter Tryz.func6, Tryz.ntmps6
  go_wp2_with fail
  refine (r4need_any n hn _).mono ?_
  rintro e w1 ⟨⟨k, hk, rfl, h7, h1⟩, hw⟩
  have hw := hw.symm
  subst hw
  obtain ⟨p1, p2, _⟩ := pow_good ⟨k, by omega⟩
  simp only at p1 p2
  have HH := hid (And.intro hk (And.intro h7 h1))
  clear h7 h1
  obtain ⟨g, hg⟩ : ∃ g, 2 ^ k = g := ⟨_, rfl⟩
  rw [hg] at p1 p2
  have HG := hid hg
  have d1 : ((g : Int) == 0) = false := by simp; omega
  simp only [hg]
  clear hg
  go_wp2_with fail
  refine (r5made_any k0 k1 g p1 p2 _).mono ?_
  rintro e w2 ⟨bm, bw, cw, bs, cs, rfl, z1, z2, z3, hM, hK⟩
  go_wp2_with fail
  go_ret
  refine ⟨k, HH.out.1, HH.out.2.1, HH.out.2.2, ?_⟩
  rw [HG.out]
  exact ⟨bm, bw, cw, bs, cs, rfl, z1, z2, z3, hM, hK⟩
end Go.Proofs.YtodledidabdkaaaGreatDoor

namespace Go.Proofs.YtodledidabdkaaaGreatDoor
open Go.RowKit Go.Shelf V
set_option linter.unusedVariables false
set_option linter.unusedSimpArgs false
theorem hit_range (M : Mp) (what : Nat) (key : Tx) (q : Nat) (h8 : (grp M.ctrl q).length = 8) : hitAt M what key q = (List.range 8).find? fun i => decide ((grp M.ctrl q).getD i 0 = what) && decide ((M.slots.getD (8 * q + i) zslot).1 = key) := by
  unfold hitAt
  rw [els_bits, List.find?_filter]
  have : ∀ (l : List Nat), (∀ i ∈ l, i < 8) → l.find? (fun a => decide (((grp M.ctrl q)[a]?.map fun b => b == what).getD false = true ∧ decide ((M.slots.getD (8 * q + a) zslot).1 = key) = true)) = l.find? fun i => decide ((grp M.ctrl q).getD i 0 = what) && decide ((M.slots.getD (8 * q + i) zslot).1 = key) := by
    intro l hl
    induction l with
    | nil => rfl
    | cons a l ih =>
      have ha := hl a (List.mem_cons_self ..)
      have e : decide (((grp M.ctrl q)[a]?.map fun b => b == what).getD false = true ∧ decide ((M.slots.getD (8 * q + a) zslot).1 = key) = true) = (decide ((grp M.ctrl q).getD a 0 = what) && decide ((M.slots.getD (8 * q + a) zslot).1 = key)) := by
        obtain ⟨b, hb⟩ : ∃ b, (grp M.ctrl q)[a]? = some b := ⟨_, List.getElem?_eq_getElem (by omega)⟩
        rw [hb, getD_of hb]
        simp
      rw [List.find?_cons, List.find?_cons, e, ih fun i hi => hl i (List.mem_cons_of_mem _ hi)]
  exact this _ fun i hi => List.mem_range.1 hi
theorem hit_at {M : Mp} {what : Nat} {key : Tx} {q i : Nat} (h8 : (grp M.ctrl q).length = 8) (hi : i < 8) (h1 : (grp M.ctrl q).getD i 0 = what) (h2 : (M.slots.getD (8 * q + i) zslot).1 = key) (hn : ∀ j, j < i → ¬ ((grp M.ctrl q).getD j 0 = what ∧ (M.slots.getD (8 * q + j) zslot).1 = key)) : hitAt M what key q = some i := by
  rw [hit_range M what key q h8, List.find?_range_eq_some]
  refine ⟨by rw [decide_eq_true h1, decide_eq_true h2]; rfl, List.mem_range.2 hi, fun j hj => ?_⟩
  have := hn j hj
  rw [Bool.not_eq_true', Bool.and_eq_false_iff, decide_eq_false_iff_not, decide_eq_false_iff_not]
  by_cases h : (grp M.ctrl q).getD j 0 = what
  · exact .inr fun h2 => this ⟨h, h2⟩
  · exact .inl h
theorem hit_no {M : Mp} {what : Nat} {key : Tx} {q : Nat} (h8 : (grp M.ctrl q).length = 8) (hn : ∀ j, j < 8 → ¬ ((grp M.ctrl q).getD j 0 = what ∧ (M.slots.getD (8 * q + j) zslot).1 = key)) : hitAt M what key q = none := by
  rw [hit_range M what key q h8, List.find?_range_eq_none]
  intro j hj
  have := hn j hj
  rw [Bool.not_eq_true', Bool.and_eq_false_iff, decide_eq_false_iff_not, decide_eq_false_iff_not]
  by_cases h : (grp M.ctrl q).getD j 0 = what
  · exact .inr fun h2 => this ⟨h, h2⟩
  · exact .inl h
set_option maxRecDepth 100000 in
set_option maxHeartbeats 4000000 in
theorem r5find_any (k0 k1 bm bw cw bs cs : Nat) (M : Mp) (hP : Pm M) (h0 : k0 < 18446744073709551616) (h1 : k1 < 18446744073709551616) (key : ByteArray) (hkey : key.size ≤ 9000000000000000000) (w : World) (h : Qs k0 k1 bm bw cw bs cs M w) :
    Calls Tryz.prog 37 #[.pointer (some ⟨bm, 0, none⟩), .string key] w fun e w' => e = .returned (.int .i64 (optV (findP (sipP k0 k1) M key))) ∧ Kp All w w' := by
  have hsip := sip_lt h0 h1 key
  have HSUM := hid (fun w => r2sum_any k0 k1 h0 h1 key hkey w)
  obtain ⟨X, hX⟩ : ∃ X, sipP k0 k1 key = X := ⟨_, rfl⟩
  have HR : Hid (findP (sipP k0 k1) M key = findL M (X % 128) key (seqP (X / 128) M.g)) := hid (by rw [findP, hX])
  rw [hX] at hsip HSUM
  have HSP := hid (fun w => r2split_any X hsip w)
  have HSQ := hid (fun w => r4seq_any (X / 128) M.g hP.pow (by omega) w)
  have hg1 := hP.g1
  have h128 : X % 128 < 128 := by omega
  have HM := hid h; have HP := hid hP
  have hc0 := blk_cell h.str
  clear hX h hP
  generalize X % 128 = what at *
  generalize X / 128 = hh at *
  obtain ⟨RES, hRES⟩ : ∃ RES, findL M what key (seqP hh M.g) = RES := ⟨_, rfl⟩
  rw [hRES] at HR
  rw [HR.out]
  have HRES := hid hRES
  clear hRES
  go_enter Tryz.func37, Tryz.ntmps37
  go_wp2_with fail
  go_region_held3 (fun w' => ∀ i, w'.cell? ⟨bm, i, none⟩ = (#[.int .u64 k0, .int .u64 k1, .slice (some ⟨bw, 0, none⟩) M.g cw, .slice (some ⟨bs, 0, none⟩) (8 * M.g) cs, .int .i64 M.cnt, .int .i64 M.tmb] : Array Value)[i]?) (first | assumption | exact blk_cell (KB.out.heap HM.out.str trivial) | exact blk_cell (KA.out.heap HM.out.str trivial)) (first | (go_at_call 73; refine (HSP.out _).mono ?_; rintro e w3 ⟨rfl, hw⟩; have KB := hid (show Kp All w w3 from by (rw [hw]; exact KA.out)); clear hw) | (go_at_call 74; refine (HSUM.out _).mono ?_; rintro e w2 ⟨rfl, hk⟩; have KA := hid (show Kp All w w2 from by first | exact hk | exact (Kp.refl All w).drew.trans hk); clear hk))
  have c3 := blk_cell (KB.out.heap HM.out.str trivial)
  clear hc0
  go_wp2_with fail
  refine (HSQ.out _).mono ?_
  rintro e w4 ⟨A4, c4, rfl, hf4, hk4⟩
  have HF4 := hid hf4
  have HK4 := hid (KB.out.trans hk4)
  clear hf4 hk4 c3
  obtain ⟨g, hg⟩ : ∃ g, M.g = g := ⟨_, rfl⟩
  have HGG := hid hg
  rw [hg] at hg1 HF4 ⊢
  have g1 := hg1.1; have g2 := hg1.2
  clear hg hg1
  go_wp2_with fail
  go_loopw [32] (fun i wr => ∃ k : Nat, k ≤ g ∧ i = .int .i64 k ∧ Hid (findL M what key ((seqP hh g).drop k) = RES) ∧ Hid (Kp All w4 wr)) (fun i _ => g - (ivl i).toNat)
  case atStart => exact ⟨0, by omega, rfl, hid (by rw [List.drop_zero, ← HGG.out]; exact HRES.out), Kp.refl _ _⟩
  case round =>
    obtain ⟨k, hk, rfl, hT, hkp⟩ := hrel
    by_cases hlt : k < g
    · have d0 : decide ((k : Int) < (g : Int)) = true := decide_eq_true (by omega)
      have hql := seqAt_lt hh g k (by omega)
      have hsg := seqP_get (h := hh) hlt
      have hdr : (seqP hh g).drop k = seqAt hh g k :: (seqP hh g).drop (k + 1) := by
        obtain ⟨p1, p2⟩ := List.getElem?_eq_some_iff.1 hsg
        rw [List.drop_eq_getElem_cons p1, p2]
      have hT2 := hT.out
      rw [hdr, findL] at hT2
      obtain ⟨b4, o4, rfl, hr4⟩ := (HF4.out wr hkp.out).2.2 (by omega)
      have hsv : (nvs (seqP hh g))[k]? = some (.int .i64 ((seqAt hh g k : Nat) : Int)) := by rw [nvs, List.getElem?_map, hsg]; rfl
      have p4 := hr4 _ _ hsv
      have i0 : (0 : Int) ≤ (k : Int) := by omega
      have i1 : (k : Int) < (g : Int) := by omega
      generalize seqAt hh g k = q at *
      have hqg : q < M.g := by rw [HGG.out]; exact hql
      have h8 := HP.out.g8 hqg
      have HMr := HM.out.all (HK4.out.trans hkp.out)
      have cm := blk_cell HMr.str
      rw [HGG.out] at cm
      have hwd := HMr.word (by have := HP.out.len; omega) hqg
      have HG3 := hid (fun i hi w => r3get_any (grp M.ctrl q) (HP.out.gb q) h8 i hi w)
      have HM3 := hid (fun w => r3match_any (grp M.ctrl q) (HP.out.gb q) h8 128 (by omega) w)
      have HSL := hid (fun i (hi : i < 8 * M.g) => (HMr.slot HP.out.slen hi).1)
      obtain ⟨wq, hwq⟩ : ∃ wq, wd (grp M.ctrl q) = wq := ⟨_, rfl⟩
      rw [hwq] at hwd HG3 HM3
      have q0 : (0 : Int) ≤ (q : Int) := by omega
      have q1 : (q : Int) < (g : Int) := by omega
      have hw8 : IntKind.i64.wrap (8 * (q : Int)) = 8 * (q : Int) := IntWalk.i64_in _ (by omega)
      have hbm := blk_lt HMr.str
      have HT2 := hid hT2; have H8 := hid h8
      clear hT2 hdr hsg hsv hr4 hwq HMr h8
      go_wp2_with fail
      go_loopw [9] (fun i ws => ∃ j : Nat, j ≤ 8 ∧ i = .int .i64 j ∧ Hid (∀ t, t < j → ¬ ((grp M.ctrl q).getD t 0 = what ∧ (M.slots.getD (8 * q + t) zslot).1 = key)) ∧ ws = wr) (fun i _ => 8 - (ivl i).toNat)
      case atStart => exact ⟨0, by omega, rfl, hid (fun t ht => by omega), rfl⟩
      case round =>
        obtain ⟨j, hj, rfl, hN, rfl⟩ := hrel
        by_cases hj8 : j < 8
        · have e0 : decide ((j : Int) < 8) = true := decide_eq_true (by omega)
          have HC := hid (fun w => HG3.out j (by omega) w)
          rw [Nat.mod_eq_of_lt hj8] at HC
          obtain ⟨jj, hjj⟩ : ∃ jj, 8 * q + j = jj := ⟨_, rfl⟩
          have hjI : 8 * (q : Int) + (j : Int) = (jj : Int) := by omega
          have hjg : jj < 8 * g := by omega
          have j0 : (0 : Int) ≤ (jj : Int) := by omega
          have j1 : (jj : Int) < 8 * (g : Int) := by omega
          have hwj : IntKind.i64.wrap (jj : Int) = (jj : Int) := IntWalk.i64_in _ (by omega)
          have hsl := HSL.out jj (by rw [HGG.out]; exact hjg)
          obtain ⟨sk, hsk⟩ : ∃ sk, (M.slots.getD jj zslot).1 = sk := ⟨_, rfl⟩
          rw [hsk] at hsl
          by_cases hb : (grp M.ctrl q).getD j 0 = what
          · rw [hb] at HC
            have de : ((what : Int) == (what : Int)) = true := by simp
            by_cases hk2 : sk = key
            · have hks : (sk.toList == key.toList) = true := by rw [beq_tx]; exact decide_eq_true (by rw [hk2])
              have hr : RES = some jj := by
                rw [← HT2.out, hit_at H8.out hj8 hb (by rw [hjj, hsk]; exact hk2) hN.out]
                simp only [hjj]
              subst hr
              have HJJ := hid hjj; have HSK := hid hsk; have HB := hid hb; have HK2 := hid hk2
              clear hjj hsk hb hk2
              go_wp2_with fail
              refine (HC.out _).mono ?_
              rintro e w6 ⟨rfl, hw⟩
              have hw := hw.symm
              subst hw
              go_wp2_with fail
              go_ret
              exact ⟨rfl, HK4.out.trans hkp.out⟩
            · have hks : (sk.toList == key.toList) = false := toList_ne hk2
              have hN2 : Hid (∀ t, t < j + 1 → ¬ ((grp M.ctrl q).getD t 0 = what ∧ (M.slots.getD (8 * q + t) zslot).1 = key)) := hid fun t ht h => by
                rcases Nat.lt_or_ge t j with h' | h'
                · exact hN.out t h' h
                · rw [show t = j from by omega, hjj, hsk] at h
                  exact hk2 h.2
              clear hjj hsk hb hk2
              go_wp2_with fail
              refine (HC.out _).mono ?_
              rintro e w6 ⟨rfl, hw⟩
              have hw := hw.symm
              subst hw
              go_wp2_with fail
              exact ⟨⟨j + 1, by omega, by go_num, hN2, trivial⟩, by simp [ivl]; omega⟩
          · have hN2 : Hid (∀ t, t < j + 1 → ¬ ((grp M.ctrl q).getD t 0 = what ∧ (M.slots.getD (8 * q + t) zslot).1 = key)) := hid fun t ht h => by
              rcases Nat.lt_or_ge t j with h' | h'
              · exact hN.out t h' h
              · rw [show t = j from by omega] at h
                exact hb h.1
            have HB := hid hb
            generalize (grp M.ctrl q).getD j 0 = bb at *
            have de : ((bb : Int) == (what : Int)) = false := by have := HB.out; simp; omega
            clear hjj hsk hb
            go_wp2_with fail
            refine (HC.out _).mono ?_
            rintro e w6 ⟨rfl, hw⟩
            have hw := hw.symm
            subst hw
            go_wp2_with fail
            exact ⟨⟨j + 1, by omega, by go_num, hN2, trivial⟩, by simp [ivl]; omega⟩
        · have e0 : decide ((j : Int) < 8) = false := decide_eq_false (by omega)
          have hh0 := hit_no (M := M) (what := what) (key := key) H8.out (fun t ht => hN.out t (by omega))
          have hT3 := HT2.out
          rw [hh0] at hT3
          obtain ⟨z, hz⟩ : ∃ z, bitsOf (fun b => b == 128) (grp M.ctrl q) = z := ⟨_, rfl⟩
          rw [hz] at HM3
          simp only [hz] at hT3
          by_cases hz0 : z = 0
          · rw [if_pos hz0] at hT3
            have dz : (!((z : Int) == 0)) = false := by simp [hz0]
            have dz2 : ((z : Int) != 0) = false := by simp [hz0]
            have dz3 : ((z : Int) == 0) = true := by simp [hz0]
            have HT3 := hid hT3
            clear hT3 hh0 hz hz0
            go_wp2_with fail
            refine (HM3.out _).mono ?_
            rintro e w6 ⟨rfl, hw⟩
            have hw := hw.symm
            subst hw
            go_wp2_with fail
            exact ⟨⟨k + 1, by omega, by go_num, HT3, hkp⟩, by simp [ivl]; omega⟩
          · rw [if_neg hz0] at hT3
            have dz : (!((z : Int) == 0)) = true := by simp; omega
            have dz2 : ((z : Int) != 0) = true := by simp; omega
            have dz3 : ((z : Int) == 0) = false := by simp; omega
            subst hT3
            clear hh0 hz hz0
            go_wp2_with fail
            refine (HM3.out _).mono ?_
            rintro e w6 ⟨rfl, hw⟩
            have hw := hw.symm
            subst hw
            go_wp2_with fail
            go_ret
            exact ⟨rfl, HK4.out.trans hkp.out⟩
    · have d0 : decide ((k : Int) < (g : Int)) = false := decide_eq_false (by omega)
      have hr : RES = none := by
        rw [← hT.out, List.drop_of_length_le (by simp [seqP]; omega)]
        rfl
      subst hr
      go_wp2_with fail
      go_ret
      exact ⟨rfl, HK4.out.trans hkp.out⟩
end Go.Proofs.YtodledidabdkaaaGreatDoor
