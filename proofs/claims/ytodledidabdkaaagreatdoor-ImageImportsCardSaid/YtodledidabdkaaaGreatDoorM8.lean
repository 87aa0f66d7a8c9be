/- The pairs' order walked: cmp.Compare on texts, and the closure. No condition. A row of pairs, sorted: the library's contract on an own row. No condition. image.Pairs walked: a map's pairs by keys. No condition. slices.IndexFunc over pairs, by the closure of Range: walked once. No condition. slices.DeleteFunc over pairs, by the closure of Range: walked once. No condition. image.Range walked: the pairs of a range. No condition. -/
import Derived.Test.YtodledidabdkaaaGreatDoorM7
import Derived.Test.YtodledidabdkaaaGreatDoorWL
set_option linter.unusedVariables false
set_option linter.unusedSimpArgs false
namespace Go.Proofs.YtodledidabdkaaaGreatDoor
open Go.RowKit Go.Shelf Go.Sort V
set_option linter.unusedVariables false
set_option linter.unusedSimpArgs false
def cmpP (a b : Tx) : Int := if bl a < bl b then -1 else if bl b < bl a then 1 else 0
theorem cmps_any (a b : Tx) (w : World) : Calls Tryz.prog 49 #[.string a, .string b] w fun e w' => e = .returned (.int .i64 (cmpP a b)) ∧ w' = w := by
  rcases tri_lt (bl a) (bl b) with h | h | h
  · have h1 : Op.bytesLess a.toList b.toList = true := by rw [lss_tx]; exact decide_eq_true h
    have hc : cmpP a b = -1 := by unfold cmpP; rw [if_pos h]
    rw [hc]
    go_enter Tryz.func49, Tryz.ntmps49
    go_wp2
    all_goals (first | (go_ret; exact ⟨rfl, rfl⟩) | (exfalso; simp_all; done))
  · have h1 : Op.bytesLess a.toList b.toList = false := by rw [lss_tx]; exact decide_eq_false (h ▸ lt_ir)
    have h2 : (a.toList == b.toList) = true := by rw [beq_tx]; exact decide_eq_true h
    have hc : cmpP a b = 0 := by unfold cmpP; rw [if_neg (h ▸ lt_ir), if_neg (h ▸ lt_ir)]
    rw [hc]
    go_enter Tryz.func49, Tryz.ntmps49
    go_wp2
    all_goals (first | (go_ret; exact ⟨rfl, rfl⟩) | (exfalso; simp_all; done))
  · have h1 : Op.bytesLess a.toList b.toList = false := by rw [lss_tx]; exact decide_eq_false (lt_as h)
    have h2 : (a.toList == b.toList) = false := by rw [beq_tx]; exact decide_eq_false fun e => lt_ir (e ▸ h)
    have hc : cmpP a b = 1 := by unfold cmpP; rw [if_neg (lt_as h), if_pos h]
    rw [hc]
    go_enter Tryz.func49, Tryz.ntmps49
    go_wp2
    all_goals (first | (go_ret; exact ⟨rfl, rfl⟩) | (exfalso; simp_all; done))
/-- a pair in cells -/
def enP (p : Slot) : List Value := [.string p.1, .string p.2]
def cfP (a b : Slot) : Int := cmpP a.1 b.1
theorem ipairs1_any (a b : Slot) (w : World) : Calls Tryz.prog 48 (#[.agg (enP a).toArray, .agg (enP b).toArray] ++ #[]) w fun e w' => e = .returned (.int .i64 (cfP a b)) ∧ ∃ q os', w' = grow (w.drewN q) os' := by
  show Calls Tryz.prog 48 #[.agg #[.string a.1, .string a.2], .agg #[.string b.1, .string b.2]] w _
  go_enter Tryz.func48, Tryz.ntmps48
  go_wp2_with fail
  refine (cmps_any a.1 b.1 _).mono ?_
  rintro _ _ ⟨rfl, rfl⟩
  go_wp2_with fail
  go_ret
  exact ⟨rfl, 0, #[_, _], by rw [alloc_eq_grow, alloc_eq_grow, grow_grow]; rfl⟩
end Go.Proofs.YtodledidabdkaaaGreatDoor

namespace Go.Proofs.YtodledidabdkaaaGreatDoor
open Go.RowKit Go.Shelf Go.Sort V
set_option linter.unusedVariables false
set_option linter.unusedSimpArgs false
instance : Inhabited Slot := ⟨zslot⟩
theorem swo_cf : SWO (ltOf cfP) where
  irrefl x := by
    unfold ltOf cfP cmpP
    rw [if_neg lt_ir, if_neg lt_ir]; rfl
  trans x y z h1 h2 := by
    have hh : ∀ p q : Slot, ltOf cfP p q = true ↔ bl p.1 < bl q.1 := fun p q => by
      unfold ltOf cfP cmpP
      by_cases h : bl p.1 < bl q.1
      · simp [h]
      · rw [if_neg h]
        by_cases h' : bl q.1 < bl p.1
        · rw [if_pos h']; simpa using List.not_lt.1 h
        · rw [if_neg h']; simpa using List.not_lt.1 h
    rw [hh] at *
    exact lt_tr h1 h2
  ntrans x y z h1 h2 := by
    have hh : ∀ p q : Slot, ltOf cfP p q = false ↔ ¬ bl p.1 < bl q.1 := fun p q => by
      unfold ltOf cfP cmpP
      by_cases h : bl p.1 < bl q.1
      · simp [h]
      · rw [if_neg h]
        by_cases h' : bl q.1 < bl p.1
        · rw [if_pos h']; simpa using List.not_lt.1 h
        · rw [if_neg h']; simpa using List.not_lt.1 h
    rw [hh] at *
    exact List.not_lt.2 (List.le_trans (List.not_lt.1 h2) (List.not_lt.1 h1))
theorem lt_cf {p q : Slot} : ltOf cfP p q = false ↔ ¬ bl p.1 < bl q.1 := by
  unfold ltOf cfP cmpP
  by_cases h : bl p.1 < bl q.1
  · simp [h]
  · rw [if_neg h]
    by_cases h' : bl q.1 < bl p.1
    · rw [if_pos h']; simpa using List.not_lt.1 h
    · rw [if_neg h']; simpa using List.not_lt.1 h
theorem flat_scs (l : Array Slot) : (flatK enP 2 l).toList = scs l.toList := by
  apply List.ext_getElem?
  intro t
  by_cases ht : t < l.size * 2
  · have h1 := get_flatK enP 2 l t ht
    rw [getElem!_pos _ t (by simpa using ht)] at h1
    rw [Array.getElem?_toList, Array.getElem?_eq_getElem (by simpa using ht), h1]
    have hi : t / 2 < l.size := by omega
    obtain ⟨g1, g2⟩ := scs_get (l := l.toList) (i := t / 2) (s := l[t / 2]!) (by rw [Array.getElem?_toList, Array.getElem?_eq_getElem hi, getElem!_pos l _ hi])
    rcases Nat.mod_two_eq_zero_or_one t with h | h
    · rw [show t / 2 * 2 = t from by omega] at g1
      rw [g1, h]; rfl
    · rw [show t / 2 * 2 + 1 = t from by omega] at g2
      rw [g2, h]; rfl
  · rw [List.getElem?_eq_none (by simpa using ht), List.getElem?_eq_none (by rw [scs_len]; simpa using ht)]
theorem holds_of_cells {w : World} {g n : Nat} {cur F : Array Value} {e : TypeId} (hb : w.heap[g]? = some (.cells cur e (0, 0))) (hF : F.size = n) (ht : cur.toList.take n = F.toList) : Holds id w g 0 F := by
  intro j hj
  refine ⟨?_, by simp [World.frozen?, hb]⟩
  have h1 : (cur.toList.take n)[j]? = F.toList[j]? := by rw [ht]
  rw [List.getElem?_take_of_lt (by omega)] at h1
  simp only [World.cell?, hb, Nat.zero_add]
  simp only [Option.isSome_none, Bool.false_eq_true, if_false]
  rw [← Array.getElem?_toList, h1, Array.getElem?_toList, Array.getElem?_eq_getElem hj, getElem!_pos F j hj]
  rfl
theorem heap_putF {w : World} {g m : Nat} {cur F : Array Value} {e : TypeId} {os : Array Obj} (hb : w.heap[g]? = some (.cells cur e (0, 0))) :
    (grow (putRow id (Sort.ahead w m) g 0 F) os).heap[g]? = some (.cells (putCells id 0 F cur) e (0, 0)) := by
  have hl := (Array.getElem?_eq_some_iff.1 hb).1
  rw [heap_grow_old _ _ (by simpa [putRow, mapBlock, Sort.ahead] using hl)]
  simp [putRow, mapBlock, Sort.ahead, Array.getElem?_modify, hb, onCells]
theorem take_putF (cur F : Array Value) (h : F.size ≤ cur.size) : (putCells id 0 F cur).toList.take F.size = F.toList := by
  apply List.ext_getElem?
  intro j
  by_cases hj : j < F.size
  · rw [List.getElem?_take_of_lt hj, Array.getElem?_toList, Array.getElem?_toList, Array.getElem?_eq_getElem hj]
    unfold putCells
    rw [Array.getElem?_mapIdx, Array.getElem?_eq_getElem (by omega)]
    simp [hj]
  · rw [List.getElem?_eq_none (by simp; omega), List.getElem?_eq_none (by simpa using hj)]
theorem grownBy_putF {w : World} {g m : Nat} {F : Array Value} {os : Array Obj} : w.grownBy (grow (putRow id (Sort.ahead w m) g 0 F) os) (some g) := by
  refine ⟨rfl, rfl, rfl, by simp, fun k hk hne => ?_⟩
  rw [heap_grow_old _ _ (by simpa using hk)]
  have : g ≠ k := fun e => hne (by rw [e])
  simp [putRow, mapBlock, Sort.ahead, Array.getElem?_modify, this]
theorem grow_drew (W : World) (os : Array Obj) (n : Nat) : (grow W os).drewN n = grow (W.drewN n) os := rfl
theorem sortp_any (base : Nat) (v : Value) (l : List Slot) (hl : l.length ≤ 3000) (w : World) (h : w.ownsRow base 35 2 v l.length (scs l)) :
    Calls Tryz.prog 47 #[v, .func (.func 48) #[] #[]] w fun e w' => e = .returned (.tuple #[]) ∧ ∃ m : List Slot, m.Perm l ∧ (m.Pairwise fun a b => ¬ bl b.1 < bl a.1) ∧ w'.ownsRow base 35 2 v m.length (scs m) ∧ w.grownBy w' v.ownBlock := by
  rcases h.2 with ⟨rfl, hz⟩ | ⟨g, cap, cur, rfl, hbase, hg, r1, r2, r3, r4⟩
  · have hss : l = [] := List.eq_nil_of_length_eq_zero hz
    subst hss
    have hc := AnyF.slices_SortFunc_none Tryz.sortP none 0 (.func (.func 48) #[] #[]) w
    change Calls Tryz.prog 47 _ _ _ at hc
    refine hc.mono ?_
    rintro e w' ⟨rfl, rfl⟩
    exact ⟨rfl, [], List.Perm.refl _, List.Pairwise.nil, h, ⟨rfl, rfl, rfl, Nat.le_refl _, fun _ _ _ => rfl⟩⟩
  · have hF : (flatK enP 2 l.toArray).size = l.length * 2 := by simp
    have hH : HoldsK enP 2 w g 0 l.toArray := holds_of_cells hg hF (by rw [r4, flat_scs])
    have hc := AnyQ.slices_SortFunc Tryz.sortP 2 (fun w => by rw [show (Tryz.sortP_ren).t 24 = 35 from rfl, Tryz.isAgg35]) (fun w => by rw [show (Tryz.sortP_ren).t 24 = 35 from rfl, Tryz.sizeOf35]) enP (fun _ => rfl) (fun x v hv => by simp [enP] at hv; rcases hv with rfl | rfl <;> rfl) cfP swo_cf 48 #[] g 0 cap l.toArray w
      (enters_of Tryz.func48 (by kernel_rfl) rfl) (fun m os dk _ x y => (ipairs1_any x y _).mono fun e w' h => h) hH (blk_lt hg) (by simp; omega)
    change Calls Tryz.prog 47 #[.slice (some ⟨g, 0, none⟩) l.length cap, _] _ _ at hc
    refine hc.mono ?_
    rintro e w' ⟨rfl, d', n, os, ⟨hp1, hp2, hp3⟩, hs, rfl⟩
    have hsz : d'.toList.length = l.length := by simpa using hp1
    have hF' : (flatK enP 2 d').size = l.length * 2 := by rw [size_flatK, hp1]; simp
    refine ⟨rfl, d'.toList, ?_, ?_, ?_, grownBy_putF⟩
    · have := hp3
      simp only [List.size_toArray, ← hsz] at this
      rw [show d'.extract 0 d'.toList.length = d' from by simp, show l.toArray.extract 0 d'.toList.length = l.toArray from by rw [hsz]; simp] at this
      exact this
    · rw [List.pairwise_iff_getElem]
      intro i j hi hj hij
      have := hs i j (Nat.zero_le _) hij (by rw [List.size_toArray]; omega)
      rw [lt_cf, getElem!_pos d' i (by simpa using hi), getElem!_pos d' j (by simpa using hj)] at this
      simpa using this
    · refine ⟨by rw [scs_len], .inr ⟨g, cap, _, by rw [hsz], hbase, heap_putF hg, by omega, r2, by simpa [putCells] using r3, ?_⟩⟩
      have h3 := take_putF cur (flatK enP 2 d') (by rw [hF', r3]; exact Nat.mul_le_mul_right _ r1)
      rw [flat_scs, hF'] at h3
      rw [hsz]
      exact h3
end Go.Proofs.YtodledidabdkaaaGreatDoor

namespace Go.Proofs.YtodledidabdkaaaGreatDoor
open Go.RowKit Go.Shelf V
set_option linter.unusedVariables false
set_option linter.unusedSimpArgs false
attribute [local go_sem] Oper.semAt_some
theorem wall_any (po : Option Nat) (w : World) : Calls Tryz.prog 46 #[mV po] w fun e w' => e = .returned (.func (.func 79) #[] #[.pointer (some ⟨w.heap.size, 0, none⟩)]) ∧ w' = w.alloc (.cells #[mV po] 28 (0, 0)) := by
  have hmv : ∃ x, mV po = .pointer x := ⟨_, rfl⟩
  obtain ⟨x, hx⟩ := hmv
  rw [hx]
  go_enter Tryz.func46, Tryz.ntmps46
  go_wp2_with fail
  go_ret
  exact ⟨rfl, rfl⟩
theorem pair_info : (Tryz.prog.info? 35).map (fun i => (i.zero, i.size, i.bytes)) = some (some (.agg #[.string ByteArray.empty, .string ByteArray.empty]), 2, 32) := by kernel_rfl
theorem cell_two_new (w : World) (a b : Value) (t : TypeId) : ∀ (j : Nat) (u : Value), [a, b][j]? = some u → (w.alloc (.cells #[a, b] t)).cell? ((⟨w.heap.size, 0, none⟩ : Addr).add j) = some u := by
  intro j u h
  rw [Addr.add_lit, blk_cell (blk_new w _)]
  simpa using h
def Hid2 (p : Prop) : Prop := p
theorem hid2 {p : Prop} (h : Hid2 p) : p := h
theorem unhid2 {p : Prop} (h : p) : Hid2 p := h
def PrI (w : World) (pre : List Slot) (W : World) : Prop := (∃ v, Boxed W w.heap.size 25 v ∧ W.ownsRow w.heap.size 35 2 v pre.length (scs pre)) ∧ Below w.heap.size w W
theorem prI_own (w : World) (base : Nat) (hb : w.heap.size ≤ base) : OwnX w.heap.size base (PrI w) := by
  rintro pre X Y row ⟨⟨v, hv, hr⟩, hB⟩ hg hrow
  refine ⟨⟨v, hv.kept hg ?_, hr.kept hg ?_⟩, hB.grown hg hB.size fun k e => ?_⟩
  · intro e
    obtain ⟨_, o, ho, h | h⟩ := hrow _ e.symm
    · rw [show X.heap[w.heap.size]? = _ from hv] at ho
      cases ho; cases h
    · exact h (.inl rfl)
  · rcases own_at hr with ⟨rfl, _⟩ | ⟨g, cap, cur, rfl, hgb, _⟩
    · exact .inl rfl
    · refine .inr fun e => ?_
      obtain ⟨_, o, ho, h | h⟩ := hrow g e.symm
      · rw [hgb] at ho
        cases ho; cases h
      · exact h (.inr ⟨_, _, _, _, _, hv, rfl⟩)
  · have := (hrow k e).1
    omega
/-- a new row of pairs -/
def PairsR (l : List Slot) (w : World) (e : Ending) (w' : World) : Prop := ∃ v, e = .returned v ∧ w'.ownsRow w.heap.size 35 2 v l.length (scs l) ∧ Kp All w w'
def SortsP : Prop := ∀ (base : Nat) (v : Value) (l : List Slot), l.length ≤ 3000 → ∀ w : World, w.ownsRow base 35 2 v l.length (scs l) →
    Calls Tryz.prog 47 #[v, .func (.func 48) #[] #[]] w fun e w' => e = .returned (.tuple #[]) ∧ ∃ m : List Slot, m.Perm l ∧ (m.Pairwise fun a b => ¬ bl b.1 < bl a.1) ∧ w'.ownsRow base 35 2 v m.length (scs m) ∧ w.grownBy w' v.ownBlock
set_option maxRecDepth 100000 in
set_option maxHeartbeats 2000000 in
theorem ipairs_of (hsort : SortsP) (k0 k1 : Nat) (po : Option Nat) (M : Mp) (O : Nat → Prop) (w : World) (h : Lo k0 k1 po M O w) : Calls Tryz.prog 15 #[mV po] w (PairsR (pairsP M) w) := by
  refine (callsIn_wide (n := 8)).1 ?_
  have HALL := hid (fun w => callsIn_wide (n := 7).2 (wall_any po w))
  have hmv : ∃ x, mV po = .pointer x := ⟨_, rfl⟩
  obtain ⟨xm, hx⟩ := hmv
  refine callsIn_of_wp_marks Tryz.func15 rfl trivial ?_ rfl
  simp only [Tryz.ntmps15, List.size_toArray, List.length_cons, List.length_nil, Nat.reduceAdd, Nat.reduceSub, Array.replicate_succ, Array.replicate_zero, List.push_toArray, List.append_toArray, List.nil_append, List.cons_append]
  have bO := Boxed.new w 25 (.slice none 0 0)
  have kk1 := Kp.al w (.cells #[.slice none 0 0] 25)
  have hf1 : Fence.wide.fn 46 := trivial
  rw [hx] at HALL
  rw [hx]
  gi_wp2_with (gi_at_call 46; refine (HALL.out _).mono ?_; rintro e w2 ⟨rfl, rfl⟩)
  obtain ⟨w2, hw2⟩ : ∃ w2, (w.alloc (Obj.cells #[Value.slice none 0 0] 25)).alloc (Obj.cells #[Value.pointer xm] 28) = w2 := ⟨_, rfl⟩
  have k2 : Kp All w w2 := hw2 ▸ kk1.trans (Kp.al _ _)
  have bO2 : Boxed w2 w.heap.size 25 (.slice none 0 0) := hw2 ▸ bO.alloc _
  have bM : w2.heap[w.heap.size + 1]? = some (.cells #[mV po] 28 (0, 0)) := by
    rw [← hw2, hx]
    have := World.alloc_heap_new (w.alloc (Obj.cells #[Value.slice none 0 0] 25)) (Obj.cells #[Value.pointer xm] 28)
    rwa [World.size_alloc] at this
  have z2 : w2.heap.size = w.heap.size + 2 := by rw [← hw2]; simp
  have hBw : Below w.heap.size w w2 := by rw [← hw2]; exact ((Below.refl _ w).alloc (Nat.le_refl _) _).alloc (by simp) _
  rw [hw2]
  refine range_own2 (α := Slot) (n := 8) (by omega) (gf := 79) (lb := #[.pointer (some ⟨w.heap.size + 1, 0, none⟩)]) rfl (enters_of Tryz.func79 (by kernel_rfl) rfl) (encs := slA) (fun _ => rfl) w.heap.size 2000 (by omega)
    (fun xs W0 W' => xs = fullP M) (fun _ _ _ _ h k => h)
    (fun l J W hW hJ hJp hY h0 => ?_)
    (PrI w) (prI_own w _ (by omega))
    (fun pre W' ⟨⟨v, h1, h2⟩, _⟩ => pv_lt h1 h2)
    ⟨⟨_, bO2, World.ownsRow_nil _ _ _ _⟩, hBw⟩
    (fun y => { tmps := #[.pointer xm, undef, .slice none 0 0, .pointer (some ⟨w.heap.size, 0, none⟩), .string y.1, .string y.2, .pointer xm, .func (.func 79) #[] #[.pointer (some ⟨w.heap.size + 1, 0, none⟩)], .string y.1, .string y.2, undef, undef, undef, undef, undef, undef, undef, undef, undef], defers := [] }) ?assign ?body ?done
  · refine (all1_in 7 (by omega) l w.heap.size (w.heap.size + 1) k0 k1 po M O J W hJ (by have := hW.size; omega) hJp hY (hW.heap bM trivial) (h.all (k2.trans hW)) ?_ h0).mono (fun e W' h => h)
    rintro b hb (e | ⟨_, _, _, _, _, e, _⟩)
    · have := h.lt b hb; omega
    · rw [hW.heap bO2 trivial] at e
      cases e
  case assign =>
    intro l k y W K hK
    unfold slA
    gi_wp2
    exact hK
  case body =>
    rintro l k pre ⟨yk, yv⟩ W ⟨⟨v, hv, hrow⟩, hB⟩ hlt
    obtain ⟨VA', vc', rfl⟩ := own_shape hrow
    have hc := hv.cell
    have hf := hv.frozen
    obtain ⟨i0, hi, hz0, hz1, hz2⟩ := info_parts pair_info
    have h63 : (9223372036854775807 : Nat) ≤ maxLen := by decide
    dsimp only
    gi_wp2_with (gi_at_builtin; refine hid2 ?_)
    unfold Hid2
    refine append_at _ rfl _ _ 25 rfl w.heap.size 35 i0 (.agg #[.string ByteArray.empty, .string ByteArray.empty]) 2 32 Tryz.underlying25 hi hz0 hz1 hz2 rfl (by decide) _ _ _ rfl (hrow.alloc _) ⟨W.heap.size, 0, none⟩ 1 1 [.string yk, .string yv] rfl rfl (cell_two_new _ _ _ _) (by simp [Value.oneCell']) (by omega) (by omega) (by have := hB.size; simp; omega) ?_
    intro v' w1 hown' hgrow hor0
    have HOR := hid hor0
    clear hor0
    have HGR := hid hgrow
    obtain ⟨g', cap', rfl⟩ := ownsRow_succ hown'
    obtain ⟨hv1, hv2, hr2, hk2, hb2⟩ := hv.appended (by decide) hrow hB.size (Nat.le_refl _) hown' hgrow
    have hc1 := hv1.cell
    have hf1 := hv1.frozen
    gi_wp2
    exact ⟨hk2.from _, rk_append hv HGR.out HOR.out hv2, ⟨_, hv2, by simpa [scs] using hr2⟩, hB.trans hb2⟩
  case done =>
    rintro D xs W0 W hD hW0 ⟨⟨v, hv, hrow⟩, hB⟩ hxs hK
    have hc := hv.cell
    have hlx : xs.length ≤ 3000 := by have := lo_len h; rw [← hxs] at this; omega
    subst hxs
    have HS0 := callsIn_wide (n := 7).2 (hsort _ _ _ hlx W hrow)
    have hte : (25 : Nat) ≠ 35 := by decide
    have hnr := hv.not_row hte hrow
    obtain ⟨VA', vc', rfl⟩ := own_shape hrow
    have hf2 : Fence.wide.fn 47 := trivial
    have HS := hid HS0
    have HR := hid hrow
    have HX := hid (And.intro hB (And.intro hnr (And.intro hv hK)))
    have hgb : ∀ b, (Value.slice VA' (fullP M).length vc').ownBlock = some b → w.heap.size ≤ b ∧ b ≠ D := by
      intro b e
      rcases own_at hrow with ⟨e1, _⟩ | ⟨g, cap, cur, e1, hg1, hg2, _⟩
      · rw [e1] at e; cases e
      · rw [e1] at e
        injection e with e
        have e : g = b := e
        subst e
        refine ⟨hg2, fun e => ?_⟩
        rw [e, hK] at hg1
        cases hg1
    have HG := hid hgb
    have HD := hid (And.intro hD (show w2.heap.size = w.heap.size + 2 from z2))
    clear hgb HS0 hlx hrow hB hnr hv hK hD hW0
    gi_wp2_with fail
    refine HS.out.mono ?_
    rintro e W2 ⟨rfl, m, hpm, hms, hr2, hg2⟩
    have hv2 := HX.out.2.2.1.kept hg2 HX.out.2.1
    have hc2 := hv2.cell
    have HM := hid (And.intro hpm (And.intro hms (And.intro hr2 (And.intro hg2 hv2))))
    clear hpm hms hr2 hg2 hv2
    gi_wp2
    have hD2 : w.heap.size ≤ D := by have := HD.out.1; have := HD.out.2; omega
    have hDW := (Array.getElem?_eq_some_iff.1 HX.out.2.2.2).1
    have hK2 : W2.heap[D]? = some (.deferred (some [])) := (HM.out.2.2.2.1.block D hDW (fun e => (HG.out D e.symm).2 rfl)).trans HX.out.2.2.2
    have hB2 : Below w.heap.size w W2 := HX.out.1.grown HM.out.2.2.2.1 HX.out.1.size (fun k e => (HG.out k e).1)
    have hm : m = pairsP M := by
      cases po with
      | none =>
        have h0 := h.1
        have hp := HM.out.1
        rw [h0] at hp
        unfold pairsP
        rw [hp.eq_nil, h0]
        exact (List.mergeSort_nil).symm
      | some bm =>
        have h : Lm k0 k1 bm M O w := h
        exact pairs_sort h.inv (List.Perm.refl _) HM.out.1 HM.out.2.1
    have hr3 := HM.out.2.2.1
    have hml : m.length = (fullP M).length := HM.out.1.length_eq
    refine ⟨by simp, .inl ⟨_, _, rfl, run_takeDeferred hK2, ?_⟩⟩
    refine ⟨_, results_tmp rfl _ _ _, _, rfl, ?_, Kp.of_below (hB2.trans (belowK_b (w := w) (Nat.le_refl _) W2 D _ _ hD2 hK2 rfl rfl)) (Nat.le_refl _)⟩
    rw [← hm]
    exact ownsRow_putObj hr3 _ hK2 rfl
end Go.Proofs.YtodledidabdkaaaGreatDoor

namespace Go.Proofs.YtodledidabdkaaaGreatDoor
open Go.RowKit V
set_option linter.unusedVariables false
abbrev sv1 (x : Slot) : Value := .string x.1
abbrev sv2 (x : Slot) : Value := .string x.2
/-- what the closure answers of each write -/
def DelP (p : Slot → Bool) (bx bz : Nat) (L : List Slot) (S : Nat → Prop) (w : World) : Prop := ∀ x ∈ L, ∀ w1, Kp S w w1 → Calls Tryz.prog 51 #[.agg #[sv1 x, sv2 x], .pointer (some ⟨bx, 0, none⟩), .pointer (some ⟨bz, 0, none⟩)] w1 fun e w2 => e = .returned (.bool (p x)) ∧ Kp All w1 w2
theorem enR1 : Enters Tryz.prog 51 := enters_of Tryz.func51 (by kernel_rfl) rfl
def IdxP (p : Slot → Bool) (L : List Slot) (w : World) (e : Ending) (w' : World) : Prop :=
  (∃ r : Int, e = .returned (.int .i64 r) ∧ ((r = -1 ∧ ∀ x ∈ L, p x = false) ∨ ∃ i x, r = (i : Nat) ∧ L[i]? = some x ∧ p x = true ∧ ∀ y ∈ L.take i, p y = false)) ∧ Kp All w w'
set_option maxRecDepth 100000 in
theorem idxp_any (p : Slot → Bool) (bx bz : Nat) (A : Option Addr) (n c : Nat) (L : List Slot) (hn : L.length = n) (hm : n ≤ 9223372036854775807) (S : Nat → Prop) (w : World) (hs : Foot All (Sl A n c 2 (scs L)) w) (hd : DelP p bx bz L S w) :
    Calls Tryz.prog 85 #[.slice A n c, .func (.func 51) #[] #[.pointer (some ⟨bx, 0, none⟩), .pointer (some ⟨bz, 0, none⟩)]] w (IdxP p L w) := by
  have HS := hid hs; have HD := hid hd; have HN := hid hn
  have e1 : ∀ args w, (callFunc 51 args).run Tryz.prog w = .ok (.enter 51 args) w := enR1
  clear hs hd hn
  go_enter Tryz.func85, Tryz.ntmps85
  go_wp2_with fail
  go_loopw [8] (fun i wr => ∃ k : Nat, k ≤ n ∧ i = .int .i64 k ∧ Hid (∀ y ∈ L.take k, p y = false) ∧ Hid (Kp All w wr)) (fun i _ => n - (ivl i).toNat)
  case atStart => exact ⟨0, Nat.zero_le _, rfl, by simp [Hid], Kp.refl _ _⟩
  case round =>
    obtain ⟨k, hk, rfl, hall, hkp⟩ := hrel
    by_cases hlt : k < n
    · have hb0 : decide ((k : Int) < (n : Int)) = true := decide_eq_true (by omega)
      have i0 : (0 : Int) ≤ (k : Int) := by omega
      have i1 : (k : Int) < (n : Int) := by omega
      obtain ⟨x, hx⟩ : ∃ x, L[k]? = some x := ⟨_, List.getElem?_eq_getElem (by rw [HN.out]; exact hlt)⟩
      obtain ⟨x1, x2⟩ := x
      obtain ⟨b, o, rfl, hr⟩ := (HS.out wr hkp.out).2.2 (by omega)
      obtain ⟨g1, g2⟩ := scs_get hx
      have c1 := hr _ _ g1
      have c2 := hr _ _ g2
      rw [← Nat.add_assoc] at c2
      obtain ⟨t, ht⟩ : ∃ t, p (x1, x2) = t := ⟨_, rfl⟩
      have HT := hid ht; have HX := hid hx
      have HC : Hid (Calls Tryz.prog 51 #[.agg #[.string x1, .string x2], .pointer (some ⟨bx, 0, none⟩), .pointer (some ⟨bz, 0, none⟩)] wr fun e w2 => e = .returned (.bool t) ∧ Kp All wr w2) := hid (by rw [← ht]; exact HD.out (x1, x2) (List.mem_of_getElem? hx) wr hkp.out.all)
      clear g1 g2 hr ht hx
      cases t
      · go_wp2_with (go_at_fn 51; refine HC.out.mono ?_; rintro e w2 ⟨rfl, hk2⟩; have HK2 := hid hk2; clear hk2)
        refine ⟨⟨k + 1, by omega, by go_num, ?_, hkp.out.trans HK2.out⟩, by simp [ivl]; omega⟩
        intro y hy
        rw [List.take_add_one, HX.out] at hy
        rcases List.mem_append.1 hy with hy | hy
        · exact hall.out y hy
        · simp at hy; subst hy; exact HT.out
      · go_wp2_with (go_at_fn 51; refine HC.out.mono ?_; rintro e w2 ⟨rfl, hk2⟩; have HK2 := hid hk2; clear hk2)
        go_ret
        exact ⟨⟨k, rfl, .inr ⟨k, _, rfl, HX.out, HT.out, hall.out⟩⟩, hkp.out.trans HK2.out⟩
    · have hb0 : decide ((k : Int) < (n : Int)) = false := decide_eq_false (by omega)
      go_wp2_with fail
      go_ret
      have : L.take k = L := List.take_of_length_le (by rw [HN.out]; omega)
      exact ⟨⟨-1, rfl, .inl ⟨rfl, by have h := hall.out; rw [this] at h; exact h⟩⟩, hkp.out⟩
end Go.Proofs.YtodledidabdkaaaGreatDoor

namespace Go.Proofs.YtodledidabdkaaaGreatDoor
open Go.RowKit V
set_option linter.unusedVariables false
theorem blk_setCells {b : Nat} {t : TypeId} {fz : Nat × Nat} : ∀ (vs : List Value) (o : Nat) (w : World) (cs : Array Value), w.heap[b]? = some (.cells cs t fz) →
    ∃ cs', (w.setCells b o vs).heap[b]? = some (.cells cs' t fz) ∧ cs'.size = cs.size ∧ cs'.toList.take o = cs.toList.take o
  | [], o, w, cs, h => ⟨cs, h, rfl, rfl⟩
  | v :: r, o, w, cs, h => by
    obtain ⟨cs', h1, h2, h3⟩ := blk_setCells r (o + 1) _ _ (blk_set h o v)
    refine ⟨cs', h1, by simpa using h2, ?_⟩
    have := congrArg (List.take o) h3
    rw [List.take_take, List.take_take, show min o (o + 1) = o from by omega] at this
    rw [this, Array.toList_setIfInBounds, List.take_set_of_le (Nat.le_refl _)]
theorem Kp.setCells {S : Nat → Prop} {a : World} {b : Nat} (hb : ¬ S b) : ∀ (vs : List Value) (o : Nat) (w : World), Kp S a w → Kp S a (w.setCells b o vs)
  | [], _, _, h => h
  | v :: r, o, w, h => Kp.setCells hb r (o + 1) _ (h.setOut hb v)
theorem zc_len (z : Array Value) (n : Nat) : (Builtin.zeroCells z n).toList.length = n * z.size := by simp [Builtin.zeroCells]
theorem run_clear_w (w : World) (b o n c : Nat) (hn : 0 < n) (cs : Array Value) (t : TypeId) (hb : w.heap[b]? = some (.cells cs t (0, 0))) (ho : o + n * 2 ≤ cs.size) :
    ∃ vs, ∀ ty, (Builtin.clear_ #[25] ty #[.slice (some ⟨b, o, none⟩) n c]).run Tryz.prog w = .ok (.tuple #[]) (w.setCells b o vs) := by
  have hzv : (zeroValue 35).run Tryz.prog w = .ok (.agg #[.string ByteArray.empty, .string ByteArray.empty]) w := by kernel_rfl
  refine ⟨(Builtin.zeroCells #[.string ByteArray.empty, .string ByteArray.empty] n).toList, fun ty => ?_⟩
  have hst := run_storeCells_cells (P := Tryz.prog) b o (Builtin.zeroCells #[.string ByteArray.empty, .string ByteArray.empty] n).toList 0 w
    (fun j hj => by
      rw [zc_len] at hj
      have hj' : j < n * 2 := hj
      rw [blk_cell hb, Nat.add_zero, Array.getElem?_eq_getElem (by omega)]; rfl)
    (fun j hj => blk_free hb _)
    (fun v hv => by
      simp only [Builtin.zeroCells, Array.toList_map, List.mem_map] at hv
      obtain ⟨i, _, rfl⟩ := hv
      have h2 : i % 2 = 0 ∨ i % 2 = 1 := by omega
      have hs : (#[Value.string ByteArray.empty, .string ByteArray.empty] : Array Value).size = 2 := rfl
      rw [hs]
      rcases h2 with h2 | h2 <;> rw [h2] <;> rfl)
  simp only [Nat.add_zero] at hst
  obtain ⟨m, rfl⟩ : ∃ m, n = m + 1 := ⟨n - 1, by omega⟩
  have hc : (Value.agg #[.string ByteArray.empty, .string ByteArray.empty]).cells = #[.string ByteArray.empty, .string ByteArray.empty] := rfl
  simp [Builtin.clear_, run_underlying Tryz.underlying25, hzv, hc, hst]

/-- the row behind: what the closure does not strike -/
def DelPPost (p : Slot → Bool) (bv : Value) (L : List Slot) (w : World) (e : Ending) (w' : World) : Prop :=
  ∃ v, e = .returned v ∧ v.ownBlock = bv.ownBlock ∧ w'.ownsRow 0 35 2 v (L.filter fun x => !p x).length (scs (L.filter fun x => !p x)) ∧ Kp (fun b => some b ≠ bv.ownBlock) w w'
theorem DelP.step {p : Slot → Bool} {bx bz : Nat} {L : List Slot} {S : Nat → Prop} {w w1 : World} (h : DelP p bx bz L S w) (k : Kp S w w1) : DelP p bx bz L S w1 := fun x hx w2 k2 => h x hx w2 (k.trans k2)
theorem filt_take {p : Slot → Bool} {L : List Slot} {j : Nat} {x : Slot} (h : L[j]? = some x) : (L.take (j + 1)).filter (fun y => !p y) = (L.take j).filter (fun y => !p y) ++ (if p x then [] else [x]) := by
  rw [List.take_add_one, h, List.filter_append]
  cases hp : p x <;> simp [hp]
/-- the row within the loop -/
structure DelJ (w wr : World) (g cap n : Nat) (p : Slot → Bool) (L : List Slot) (i j : Nat) (M : List Slot) (cur : Array Value) : Prop where
  blk : wr.heap[g]? = some (.cells cur 35 (0, 0))
  size : cur.size = cap * 2
  row : cur.toList.take (n * 2) = scs M
  len : M.length = n
  done : M.take i = (L.take j).filter fun x => !p x
  rest : M.drop j = L.drop j
  kp : Kp (fun b => b ≠ g) w wr
theorem DelJ.at {w wr : World} {g cap n : Nat} {p : Slot → Bool} {L : List Slot} {i j : Nat} {M : List Slot} {cur : Array Value} (h : DelJ w wr g cap n p L i j M cur) (k : Nat) (hk : k < n) : ∃ y, M[k]? = some y ∧ wr.cell? ⟨g, k * 2, none⟩ = some (sv1 y) ∧ wr.cell? ⟨g, k * 2 + 1, none⟩ = some (sv2 y) := by
  obtain ⟨y, hy⟩ : ∃ y, M[k]? = some y := ⟨_, List.getElem?_eq_getElem (by rw [h.len]; exact hk)⟩
  obtain ⟨g1, g2⟩ := scs_get hy
  refine ⟨y, hy, ?_, ?_⟩
  · rw [blk_cell h.blk, ← Array.getElem?_toList]
    rw [← h.row, List.getElem?_take, if_pos (by omega)] at g1
    exact g1
  · rw [blk_cell h.blk, ← Array.getElem?_toList]
    rw [← h.row, List.getElem?_take, if_pos (by omega)] at g2
    exact g2
theorem DelJ.get {w wr : World} {g cap n : Nat} {p : Slot → Bool} {L : List Slot} {i j : Nat} {M : List Slot} {cur : Array Value} (h : DelJ w wr g cap n p L i j M cur) {k : Nat} (hk : j ≤ k) : M[k]? = L[k]? := by
  have := congrArg (fun l => l[k - j]?) h.rest
  simpa [List.getElem?_drop, show j + (k - j) = k from by omega] using this
theorem DelJ.kept {w wr wr' : World} {g cap n : Nat} {p : Slot → Bool} {L : List Slot} {i j : Nat} {M : List Slot} {cur : Array Value} (h : DelJ w wr g cap n p L i j M cur) (k : Kp All wr wr') : DelJ w wr' g cap n p L i j M cur :=
  { h with blk := k.heap h.blk trivial, kp := h.kp.trans k.all }
/-- a write that goes -/
theorem DelJ.drop {w wr : World} {g cap n : Nat} {p : Slot → Bool} {L : List Slot} {i j : Nat} {M : List Slot} {cur : Array Value} (h : DelJ w wr g cap n p L i j M cur) {x : Slot} (hx : L[j]? = some x) (hp : p x = true) : DelJ w wr g cap n p L i (j + 1) M cur :=
  { h with
    done := by rw [filt_take hx, hp, h.done]; simp
    rest := by
      have := congrArg (List.drop 1) h.rest
      simpa [List.drop_drop] using this }
/-- a write that stays -/
theorem DelJ.stay {w wr : World} {g cap n : Nat} {p : Slot → Bool} {L : List Slot} {i j : Nat} {M : List Slot} {cur : Array Value} (h : DelJ w wr g cap n p L i j M cur) (hij : i < j) (hjn : j < n) {x : Slot} (hx : L[j]? = some x) (hp : p x = false) :
    ∃ cur', DelJ w ((wr.setCell ⟨g, i * 2, none⟩ (sv1 x)).setCell ⟨g, i * 2 + 1, none⟩ (sv2 x)) g cap n p L (i + 1) (j + 1) (M.set i x) cur' := by
  refine ⟨_, ⟨blk_set (blk_set h.blk (i * 2) (sv1 x)) (i * 2 + 1) (sv2 x), by simpa using h.size, ?_, by simpa using h.len, ?_, ?_, (h.kp.setOut (by simp) _).setOut (by simp) _⟩⟩
  · rw [scs_set, ← h.row]
    simp only [Array.toList_setIfInBounds, List.take_set]
  · rw [filt_take hx, hp, ← h.done]
    have hi : i < M.length := by rw [h.len]; omega
    rw [List.take_add_one, List.getElem?_set_self hi]
    simp [List.take_set_of_le]
  · rw [List.drop_set_of_lt (by omega)]
    have := congrArg (List.drop 1) h.rest
    simpa [List.drop_drop] using this
set_option maxRecDepth 100000 in
set_option maxHeartbeats 1000000 in
theorem delp_any (p : Slot → Bool) (bx bz : Nat) (bv : Value) (n : Nat) (L : List Slot) (hn : L.length = n) (hm : n ≤ 1073741824) (w : World) (hrow : w.ownsRow 0 35 2 bv n (scs L)) (hd : DelP p bx bz L (fun b => some b ≠ bv.ownBlock) w) :
    Calls Tryz.prog 50 #[bv, .func (.func 51) #[] #[.pointer (some ⟨bx, 0, none⟩), .pointer (some ⟨bz, 0, none⟩)]] w (DelPPost p bv L w) := by
  have HR := hid hrow; have HD := hid hd; have HN := hid hn
  have hs : ∀ A c, bv = .slice A n c → Foot All (Sl A n c 2 (scs L)) w := by
    rintro A c rfl u hu
    have h1 := own_kept hrow hu (fun _ _ => trivial)
    refine ⟨by rw [scs_len, hn], ?_, fun h0 => ?_⟩
    · rcases h1.2 with ⟨e, e2⟩ | ⟨g, cap, cur, e, hb, hg, hnc, _⟩
      · injection e with e1 e3 e4; omega
      · injection e with e1 e3 e4; subst e4; exact hnc
    · rcases own_at h1 with ⟨_, e, _⟩ | ⟨g, cap, cur, e, hg, _, hat⟩
      · omega
      · injection e with e1 e3 e4
        exact ⟨g, 0, e1, fun j u hj => by rw [Nat.zero_add]; exact hat j u hj⟩
  have e1 : ∀ args w, (callFunc 51 args).run Tryz.prog w = .ok (.enter 51 args) w := enR1
  by_cases hall : ∀ x ∈ L, p x = false
  · obtain ⟨A, c, rfl⟩ := own_shape hrow
    have HS := hid (hs A c rfl)
    have HALL := hid hall
    clear hs hrow hd hn hall
    go_enter Tryz.func50, Tryz.ntmps50
    go_wp2_with fail
    refine (idxp_any p bx bz A n c L HN.out (by omega) _ w HS.out HD.out).mono ?_
    rintro e w1 ⟨⟨r, rfl, hr⟩, hk⟩
    obtain rfl : r = -1 := by
      rcases hr with ⟨h, _⟩ | ⟨i, x, _, h2, h3, _⟩
      · exact h
      · rw [HALL.out x (List.mem_of_getElem? h2)] at h3; cases h3
    have HK := hid hk
    clear hr hk
    go_wp2_with fail
    go_ret
    have hf : L.filter (fun x => !p x) = L := List.filter_eq_self.2 fun x hx => by simp [HALL.out x hx]
    exact ⟨_, rfl, rfl, by rw [hf, HN.out]; exact own_kept HR.out HK.out (fun _ _ => trivial), HK.out.all⟩
  · rcases hrow.2 with ⟨rfl, e⟩ | ⟨g, cap, cur, rfl, hb, hg, hnc, hcm, hcs, htake⟩
    · exact absurd (fun x hx => by rw [List.eq_nil_of_length_eq_zero (by omega : L.length = 0)] at hx; cases hx) hall
    have HS := hid (hs _ _ rfl)
    have HALL := hid hall
    have hgb : g < w.heap.size := blk_lt hg
    have HG := hid hg; have HC := hid hcs; have HT := hid htake
    clear hs hrow hd hn hall hg hcs htake
    go_enter Tryz.func50, Tryz.ntmps50
    go_wp2_with fail
    refine (idxp_any p bx bz _ n cap L HN.out (by omega) _ w HS.out HD.out).mono ?_
    rintro e w1 ⟨⟨r, rfl, hr⟩, hk⟩
    obtain ⟨i0, x0, rfl, hi0, hp0, hnone⟩ : ∃ i x, r = (i : Nat) ∧ L[i]? = some x ∧ p x = true ∧ ∀ y ∈ L.take i, p y = false := by
      rcases hr with ⟨_, h⟩ | h
      · exact absurd h HALL.out
      · exact h
    have hi0n : i0 < n := by rw [← HN.out]; exact (List.getElem?_eq_some_iff.1 hi0).1
    have HK := hid hk; have HI := hid hi0; have HP := hid hp0; have HNO := hid hnone
    clear hr hk hi0 hp0 hnone
    have hne : ((i0 : Int) == -1) = false := beq_eq_false_iff_ne.2 (by omega)
    go_wp2_with fail
    go_loopw [5, 6] (fun ii jj wr => ∃ i j M cu, i < j ∧ j ≤ n ∧ ii = .int .i64 (i : Nat) ∧ jj = .int .i64 (j : Nat) ∧ Hid (DelJ w wr g cap n p L i j M cu)) (fun _ jj _ => n - (ivl jj).toNat)
    case atStart =>
      refine ⟨i0, i0 + 1, L, cur, by omega, by omega, rfl, by go_num, ⟨HK.out.heap HG.out trivial, HC.out, HT.out, HN.out, ?_, rfl, HK.out.all⟩⟩
      rw [filt_take HI.out, HP.out]
      simp only [if_true, List.append_nil]
      exact (List.filter_eq_self.2 fun x hx => by simp [HNO.out x hx]).symm
    case round =>
      obtain ⟨i, j, M, cu, hij, hjn, rfl, rfl, hI⟩ := hrel
      by_cases hlt : j < n
      · have hb0 : decide ((j : Int) < (n : Int)) = true := decide_eq_true (by omega)
        have j0 : (0 : Int) ≤ (j : Int) := by omega
        have j1 : (j : Int) < (n : Int) := by omega
        have i0' : (0 : Int) ≤ (i : Int) := by omega
        have i1' : (i : Int) < (n : Int) := by omega
        obtain ⟨⟨x1, x2⟩, hx', c1, c2⟩ := hI.out.at j hlt
        have hx : L[j]? = some (x1, x2) := by rw [← hI.out.get (Nat.le_refl _)]; exact hx'
        unfold sv1 at c1; unfold sv2 at c2
        have hk1 : Kp (fun b => b ≠ g) w wr := hI.out.kp
        obtain ⟨t, ht⟩ : ∃ t, p (x1, x2) = t := ⟨_, rfl⟩
        have HTT := hid ht; have HX := hid hx
        have HCL : Hid (Calls Tryz.prog 51 #[.agg #[.string x1, .string x2], .pointer (some ⟨bx, 0, none⟩), .pointer (some ⟨bz, 0, none⟩)] (wr.alloc (.cells #[.string x1, .string x2] 35)) fun e w2 => e = .returned (.bool t) ∧ Kp All (wr.alloc (.cells #[.string x1, .string x2] 35)) w2) := hid (by
          rw [← ht]
          exact HD.out (x1, x2) (List.mem_of_getElem? hx) _ ((hk1.mono fun b _ hb e => hb (by rw [e]; rfl)).alloc _))
        have hbx := blk_new wr (.cells #[.string x1, .string x2] 35)
        have HBX := hid hbx
        clear hx hx' ht hk1 hbx
        cases t
        · go_wp2_with (go_at_fn 51; refine HCL.out.mono ?_; rintro e w2 ⟨rfl, hk2⟩; have d1 := blk_cell (hk2.heap HBX.out trivial); have hI2 := hI.out.kept ((Kp.al _ _).trans hk2); have f2 := blk_free hI2.blk; obtain ⟨y, _, y1, y2⟩ := hI2.at i (by omega); have HI2 := hid hI2; clear hk2 hI2)
          obtain ⟨cu', hI3⟩ := HI2.out.stay hij hlt HX.out HTT.out
          exact ⟨⟨i + 1, j + 1, _, cu', by omega, by omega, by go_num, by go_num, hI3⟩, by simp [ivl]; omega⟩
        · go_wp2_with (go_at_fn 51; refine HCL.out.mono ?_; rintro e w2 ⟨rfl, hk2⟩; have HK2 := hid hk2; clear hk2)
          exact ⟨⟨i, j + 1, M, cu, by omega, by omega, rfl, by go_num, (hI.out.kept ((Kp.al _ _).trans HK2.out)).drop HX.out HTT.out⟩, by simp [ivl]; omega⟩
      · have hb0 : decide ((j : Int) < (n : Int)) = false := decide_eq_false (by omega)
        obtain rfl : j = n := by omega
        have hcj : j ≤ cap := hnc
        obtain ⟨vs, hvs⟩ := run_clear_w wr g (i * 2) (j - i) (cap - i) (by omega) cu _ hI.out.blk (by rw [hI.out.size]; omega)
        have i0' : (0 : Int) ≤ (i : Int) := by omega
        have i1' : (i : Int) ≤ (j : Int) := by omega
        have i2' : (i : Int) ≤ (cap : Int) := by omega
        have i3' : ¬ cap = i := by omega
        go_wp2_with fail
        go_ret
        have hI' := hI.out
        obtain ⟨cu', h1, h2, h3⟩ := blk_setCells vs (i * 2) wr cu hI'.blk
        have hLt : L.take j = L := List.take_of_length_le (by rw [HN.out]; exact Nat.le_refl _)
        have hdone := hI'.done
        rw [hLt] at hdone
        have hli : (L.filter fun x => !p x).length = i := by rw [← hdone, List.length_take, hI'.len]; omega
        refine ⟨_, rfl, rfl, ?_, (Kp.setCells (by simp) vs _ _ hI'.kp).mono fun b _ hb e => hb (by rw [e]; rfl)⟩
        rw [hli]
        refine ⟨by rw [scs_len, hli], .inr ⟨g, cap, cu', rfl, hb, h1, by omega, hcm, by rw [h2]; exact hI'.size, ?_⟩⟩
        rw [h3, ← hdone]
        have := congrArg (List.take (i * 2)) hI'.row
        rw [List.take_take, show min (i * 2) (j * 2) = i * 2 from by omega] at this
        rw [this]
        have hM : M = M.take i ++ M.drop i := (List.take_append_drop i M).symm
        have hl : (scs (M.take i)).length = i * 2 := by rw [scs_len, List.length_take, hI'.len]; omega
        calc (scs M).take (i * 2) = (scs (M.take i ++ M.drop i)).take (i * 2) := by rw [← hM]
          _ = scs (M.take i) := by rw [scs_append, List.take_append_of_le_length (by omega), List.take_of_length_le (by omega)]
end Go.Proofs.YtodledidabdkaaaGreatDoor

namespace Go.Proofs.YtodledidabdkaaaGreatDoor
open Go.RowKit Go.Shelf Go.Sort V
set_option linter.unusedVariables false
set_option linter.unusedSimpArgs false
theorem ipairs_any (k0 k1 : Nat) (po : Option Nat) (M : Mp) (O : Nat → Prop) (w : World) (h : Lo k0 k1 po M O w) : Calls Tryz.prog 15 #[mV po] w (PairsR (pairsP M) w) := ipairs_of sortp_any k0 k1 po M O w h
theorem own_base0 {w : World} {base e sz n : Nat} {v : Value} {xs : List Value} (h : w.ownsRow 0 e sz v n xs) (hb : ∀ b, v.ownBlock = some b → base ≤ b) : w.ownsRow base e sz v n xs := by
  refine ⟨h.1, ?_⟩
  rcases h.2 with hn | ⟨g, cap, cur, rfl, _, rest⟩
  · exact .inl hn
  · exact .inr ⟨g, cap, cur, rfl, hb g rfl, rest⟩
theorem emp_tx (a : Tx) : (a.toList == ([] : List UInt8)) = decide (a = ByteArray.empty) := by
  have h1 := beq_tx a ByteArray.empty
  rw [show ByteArray.empty.toList = [] from by rw [ByteArray.toList_eq]; rfl] at h1
  rw [h1]
  by_cases e : a = ByteArray.empty
  · subst e; simp
  · rw [decide_eq_false e, decide_eq_false fun h => e (bl_inj h)]
theorem irange1_any (lo hi k v : Tx) (bx bz : Nat) (t1 t2 : TypeId) (w : World) (h1 : w.heap[bx]? = some (.cells #[.string lo] t1 (0, 0))) (h2 : w.heap[bz]? = some (.cells #[.string hi] t2 (0, 0))) :
    Calls Tryz.prog 51 #[.agg #[.string k, .string v], .pointer (some ⟨bx, 0, none⟩), .pointer (some ⟨bz, 0, none⟩)] w fun e w2 => e = .returned (.bool (!inR lo hi (k, v))) ∧ Kp All w w2 := by
  have hb1 := blk_lt h1
  have hb2 := blk_lt h2
  have c1 := blk_cell h1
  have c2 := blk_cell h2
  have hh : (!inR lo hi (k, v)) = (Op.bytesLess k.toList lo.toList || (!(hi.toList == [])) && !(Op.bytesLess k.toList hi.toList)) := by
    rw [lss_tx, lss_tx, emp_tx]
    unfold inR
    by_cases a1 : bl k < bl lo <;> by_cases a2 : hi = ByteArray.empty <;> by_cases a3 : bl k < bl hi <;> simp [a1, a2, a3]
  rw [hh]
  clear hh
  obtain ⟨b1, e1⟩ : ∃ b1, Op.bytesLess k.toList lo.toList = b1 := ⟨_, rfl⟩
  obtain ⟨b2, e2⟩ : ∃ b2, (hi.toList == []) = b2 := ⟨_, rfl⟩
  obtain ⟨b3, e3⟩ : ∃ b3, Op.bytesLess k.toList hi.toList = b3 := ⟨_, rfl⟩
  rw [e1, e2, e3]
  cases b1 <;> cases b2 <;> cases b3 <;>
  · go_enter Tryz.func51, Tryz.ntmps51
    go_wp2_with fail
    go_ret
    exact ⟨rfl, Kp.al _ _⟩
theorem scs_take : ∀ (l : List Slot) (k : Nat), scs (l.take k) = (scs l).take (k * 2)
  | [], k => by simp [scs]
  | x :: r, 0 => by simp [scs]
  | x :: r, k + 1 => by
    have := scs_take r k
    simp only [scs, List.take_succ_cons, List.flatMap_cons] at this ⊢
    rw [this, show (k + 1) * 2 = k * 2 + 2 from by omega]
    simp
theorem own_take {w : World} {base e sz n c k : Nat} {A : Option Addr} {xs : List Value} (h : w.ownsRow base e sz (.slice A n c) n xs) (hk : k ≤ n) : w.ownsRow base e sz (.slice A k c) k (xs.take (k * sz)) := by
  have hm : k * sz ≤ n * sz := Nat.mul_le_mul_right _ hk
  refine ⟨by rw [List.length_take, h.1]; omega, ?_⟩
  rcases h.2 with ⟨e1, e2⟩ | ⟨g, cap, cur, e1, hb, hg, hn, hc, hs, ht⟩
  · injection e1 with eA _ ec
    subst eA ec e2
    obtain rfl : k = 0 := by omega
    exact .inl ⟨rfl, rfl⟩
  · injection e1 with eA _ ec
    subst eA ec
    exact .inr ⟨g, c, cur, rfl, hb, hg, by omega, hc, hs, by rw [← ht, List.take_take, show min (k * sz) (n * sz) = k * sz from by omega]⟩
theorem Lo.plen {k0 k1 : Nat} {po : Option Nat} {M : Mp} {O : Nat → Prop} {w : World} (h : Lo k0 k1 po M O w) : (pairsP M).length ≤ 2000 := by
  unfold pairsP; rw [List.length_mergeSort]; exact lo_len h
set_option maxRecDepth 100000 in
set_option maxHeartbeats 1000000 in
theorem irange_any (k0 k1 : Nat) (po : Option Nat) (M : Mp) (O : Nat → Prop) (lo hi : Tx) (n : Int) (w : World) (h : Lo k0 k1 po M O w) : Calls Tryz.prog 16 #[mV po, .string lo, .string hi, .int .i64 n] w (PairsR (rangeP (pairsP M) lo hi n) w) := by
  have HALL := hid (fun w => ipairs_any k0 k1 po M O w)
  have HL := hid h
  have hmv : ∃ x, mV po = .pointer x := ⟨_, rfl⟩
  obtain ⟨xm, hx⟩ := hmv
  rw [hx] at HALL
  rw [hx]
  clear h
  go_enter Tryz.func16, Tryz.ntmps16
  go_wp2_with fail
  obtain ⟨w2, hw2⟩ : ∃ w2, (w.alloc (Obj.cells #[Value.string lo] 9)).alloc (Obj.cells #[Value.string hi] 9) = w2 := ⟨_, rfl⟩
  have k2 : Kp All w w2 := hw2 ▸ (Kp.al _ _).trans (Kp.al _ _)
  have z2 : w2.heap.size = w.heap.size + 2 := by rw [← hw2]; simp
  have b1 : w2.heap[w.heap.size]? = some (.cells #[.string lo] 9 (0, 0)) := by
    rw [← hw2]
    exact (Below.heap_alloc _ _ _ (by simp)).trans (World.alloc_heap_new w _)
  have b2 : w2.heap[w.heap.size + 1]? = some (.cells #[.string hi] 9 (0, 0)) := by
    rw [← hw2]
    have := World.alloc_heap_new (w.alloc (Obj.cells #[Value.string lo] 9)) (Obj.cells #[Value.string hi] 9)
    rwa [World.size_alloc] at this
  rw [hw2]
  refine (HALL.out w2 (HL.out.all k2)).mono ?_
  rintro e w3 ⟨v, rfl, hrow, k3⟩
  have hlen := HL.out.plen
  have hob : ∀ b, v.ownBlock = some b → w2.heap.size ≤ b := by
    intro b e
    rcases own_at hrow with ⟨rfl, _⟩ | ⟨g, cap, cur, rfl, hg1, hg2, _⟩
    · cases e
    · injection e with e; subst e; exact hg2
  have hD : DelP (fun x => !inR lo hi x) w.heap.size (w.heap.size + 1) (pairsP M) (fun b => some b ≠ v.ownBlock) w3 := by
    rintro ⟨k, u⟩ _ w1 kk
    have hs : ∀ b, b < w2.heap.size → some b ≠ v.ownBlock := fun b hb e => by have := hob b e.symm; omega
    exact irange1_any lo hi k u _ _ _ _ w1 (kk.heap (k3.heap b1 trivial) (hs _ (by omega))) (kk.heap (k3.heap b2 trivial) (hs _ (by omega)))
  have HDEL := hid (delp_any (fun x => !inR lo hi x) w.heap.size (w.heap.size + 1) v (pairsP M).length (pairsP M) rfl (by omega) w3 (own_mono hrow (Nat.zero_le _)) hD)
  have HX := hid (And.intro hob (And.intro k2 (And.intro k3 z2)))
  clear hD hob hlen hrow k2 k3 z2 b1 b2 hw2
  go_wp2_with fail
  refine HDEL.out.mono ?_
  rintro e w4 ⟨v4, rfl, hb4, hrow4, k4⟩
  have hff : ((pairsP M).filter fun x => !(fun x => !inR lo hi x) x) = (pairsP M).filter (inR lo hi) := by simp
  rw [hff] at hrow4
  obtain ⟨F, hF⟩ : ∃ F, (pairsP M).filter (inR lo hi) = F := ⟨_, rfl⟩
  rw [hF] at hrow4
  have HF := hid hF
  have hFl : F.length ≤ 2000 := by
    rw [← hF]
    exact Nat.le_trans (List.length_filter_le _ _) HL.out.plen
  have hcap : ∀ A c, v4 = .slice A F.length c → F.length ≤ c ∧ (A = none → c = 0) := by
    rintro A c rfl
    rcases hrow4.2 with ⟨e, e2⟩ | ⟨g, cap, cur, e, _, _, hnc, _⟩
    · injection e with e1 e3 e4; exact ⟨by omega, fun _ => e4⟩
    · injection e with e1 e3 e4; subst e4; exact ⟨hnc, fun h => by rw [h] at e1; cases e1⟩
  obtain ⟨A, c, rfl⟩ := own_shape hrow4
  obtain ⟨hc1, hc2⟩ := hcap _ _ rfl
  obtain ⟨fl, hfl⟩ : ∃ fl, F.length = fl := ⟨_, rfl⟩
  have HR4 := hid (And.intro hrow4 (And.intro hb4 k4))
  clear hrow4 hb4 k4 hcap hff hF HDEL
  rw [hfl] at hFl HR4 hc1
  have m0 : (0 : Int) ≤ min (fl : Int) (max n 0) := by omega
  have m1 : min (fl : Int) (max n 0) ≤ (c : Int) := by omega
  go_wp2_with fail
  go_ret
  obtain ⟨hrow4, hb4, k4⟩ := HR4.out
  obtain ⟨hob, k2, k3, z2⟩ := HX.out
  have hk : (min (fl : Int) (max n 0)).toNat ≤ fl := by omega
  have hrl : rangeP (pairsP M) lo hi n = F.take (min (fl : Int) (max n 0)).toNat := by
    unfold rangeP
    rw [HF.out]
    by_cases hh : (max n 0).toNat ≤ fl
    · rw [show (min (fl : Int) (max n 0)).toNat = (max n 0).toNat from by omega]
    · rw [show (min (fl : Int) (max n 0)).toNat = fl from by omega, List.take_of_length_le (by omega), List.take_of_length_le (by omega)]
  rw [hrl]
  have hr5 : w4.ownsRow w.heap.size 35 2 (.slice A fl c) fl (scs F) := own_base0 hrow4 fun b e => by have := hob b (by rw [← hb4]; exact e); omega
  refine ⟨_, rfl, ?_, ?_⟩
  · have hlk : (F.take (min (fl : Int) (max n 0)).toNat).length = (min (fl : Int) (max n 0)).toNat := by rw [List.length_take]; omega
    rw [hlk, scs_take]
    exact own_take hr5 hk
  · refine ⟨k4.os.trans (k3.os.trans k2.os), k4.tape.trans (k3.tape.trans k2.tape), k4.output.trans (k3.output.trans k2.output), Nat.le_trans k2.size (Nat.le_trans k3.size k4.size), fun b hb _ => ?_⟩
    have h2 := k2.size
    have h3 := k3.size
    rw [k4.block b (by omega) (fun e => by have := hob b e.symm; omega), k3.block b (by omega) trivial, k2.block b hb trivial]
end Go.Proofs.YtodledidabdkaaaGreatDoor
