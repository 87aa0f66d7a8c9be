/- The disk: a file has another name: what it leaves, in plain Lean; Rename, walked once. No condition on the disk but that it lies as Dk says. The disk: Rename, walked once. No condition on the disk but that it lies as Dk says. The disk: List, walked once, over the library's contracts. No condition on the disk but that it lies as Dk says, and that its names are not great. What settle leaves of the buffer, in plain Lean. No program is walked here. The disk: Rename, whole: walked once. No condition on the disk but that it lies as Dk says. -/
import Derived.Test.YtbkhademplgicaaGreatDoorM11
import Derived.Test.YtbkhademplgicaaGreatDoorIT
import Derived.Test.YtbkhademplgicaaGreatDoorM6
set_option linter.unusedVariables false
set_option linter.unusedSimpArgs false
namespace Go.Proofs.YtbkhademplgicaaGreatDoor
open Go.RowKit
set_option linter.unusedVariables false
set_option linter.unusedSimpArgs false
theorem bs_ne {s t : Nm} (h : s ≠ t) : ¬ s.toList = t.toList := fun e => h (by
  rw [ByteArray.toList_eq, ByteArray.toList_eq] at e
  cases s; cases t
  simp only [Array.toList_inj] at e
  subst e; rfl)
theorem adel_used {F B : List (Nm × By)} {n : Nm} {s : By} (hn : (F.map (·.1)).Nodup) (h : (n, s) ∈ F) : usedOf (adel F n) B + needs (s.length + moreOf B n) = usedOf F B := by
  have h1 := gone_used (B := B) hn h
  have h2 : usedOf (adel F n) (adel B n) = usedOf (adel F n) B := by
    unfold usedOf
    congr 1
    apply List.map_congr_left
    intro x hx
    rw [moreOf_adel (by simpa using (List.mem_filter.1 hx).2)]
  rw [h2] at h1
  exact h1
def renB (B : List (Nm × By)) (a b : Nm) : List (Nm × By) := B.map fun x => if x.1 = a then (b, x.2) else x
def DS.ren (D : DS) (a b : Nm) (s : By) : DS := { D with F := adel D.F a ++ [(b, s)], B := renB D.B a b }
theorem moreOf_ren {B : List (Nm × By)} {a b k : Nm} (hab : a ≠ b) (hb : ∀ x ∈ B, x.1 ≠ b) : moreOf (renB B a b) k = if k = b then moreOf B a else if k = a then 0 else moreOf B k := by
  induction B with
  | nil => simp [renB, moreOf]
  | cons x l ih =>
    have ih := ih fun y hy => hb y (List.mem_cons_of_mem _ hy)
    have hx := hb x (List.mem_cons_self ..)
    unfold renB at ih ⊢
    rw [List.map_cons, moreOf, ih]
    by_cases e1 : x.1 = a
    · rw [if_pos e1]
      by_cases e2 : k = b
      · rw [if_pos e2.symm, if_pos e2, if_pos e2, moreOf, if_pos e1]
      · rw [if_neg (fun e => e2 e.symm), if_neg e2, if_neg e2]
        by_cases e3 : k = a
        · rw [if_pos e3, if_pos e3]
        · rw [if_neg e3, if_neg e3, moreOf, if_neg (fun e => e3 (by rw [← e, e1]))]
    · rw [if_neg e1]
      by_cases e2 : k = b
      · rw [if_neg (fun e => hx (by rw [e, e2])), if_pos e2, if_pos e2, moreOf, if_neg e1]
      · rw [if_neg e2, if_neg e2]
        by_cases e3 : k = a
        · rw [if_pos e3, if_pos e3, if_neg (fun e => e1 (by rw [e, e3]))]
        · rw [if_neg e3, if_neg e3, moreOf]
theorem ren_used {F B : List (Nm × By)} {a b : Nm} {s : By} (hn : (F.map (·.1)).Nodup) (h : (a, s) ∈ F) (hab : a ≠ b) (hb : b ∉ F.map (·.1)) (hB : ∀ x ∈ B, x.1 ≠ b) : usedOf (adel F a ++ [(b, s)]) (renB B a b) = usedOf F B := by
  rw [← adel_used (B := B) hn h]
  have h1 : usedOf (adel F a) (renB B a b) = usedOf (adel F a) B := by
    unfold usedOf
    congr 1
    apply List.map_congr_left
    intro x hx
    have h2 : x.1 ≠ a := by simpa using (List.mem_filter.1 hx).2
    have h3 : x.1 ≠ b := fun e => hb (by rw [← e]; exact List.mem_map.2 ⟨x, (List.mem_filter.1 hx).1, rfl⟩)
    rw [moreOf_ren hab hB, if_neg h3, if_neg h2]
  have h4 : usedOf (adel F a ++ [(b, s)]) (renB B a b) = usedOf (adel F a) (renB B a b) + needs (s.length + moreOf (renB B a b) b) := by
    simp only [usedOf, List.map_append, List.map_cons, List.map_nil, List.sum_append, List.sum_cons, List.sum_nil, Nat.add_zero]
  rw [h4, h1, moreOf_ren hab hB, if_pos rfl]

theorem Dk0.renamed {w wF : World} {p : Nat} {ro : Nat → Role} {D : DS} {m : Nat} {fp : Nm → Nat} {bv : Value} {BV : List (Nm × By × Value)} (h : Dk0 w p ro D m fp bv BV) {a b : Nm} {s : By} (hs : (a, s) ∈ D.F) (hab : a ≠ b) (hb : aget D.F b = none)
    (hmap : SMap wF m (aset (adel (D.F.map fun x => (x.1, Value.pointer (some ⟨fp x.1, 0, none⟩))) a) b (.pointer (some ⟨fp a, 0, none⟩))))
    (kp : Kp (fun z => z ≠ m) w wF) : Nx w ro p (D.ren a b s) wF := by
  have hbk := aget_none hb
  have hnd : (D.F.map (·.1)).Nodup := by
    have := h.map.nodup strKey
    simpa [List.map_map, Function.comp_def] using this
  have hB : ∀ x ∈ D.B, x.1 ≠ b := fun x hx e => hbk (by rw [← e]; exact h.names x hx)
  have hne : ∀ x ∈ D.F, x.1 ≠ b := fun x hx e => hbk (by rw [← e]; exact List.mem_map.2 ⟨x, hx, rfl⟩)
  have hkeep : ∀ z, ro z ≠ .none → ro z ≠ .map → z ≠ m := fun z _ h3 e => h3 (e ▸ h.rm)
  have hBV : ∀ x ∈ BV, x.1 ≠ b := fun x hx => hB (x.1, x.2.1) (by rw [h.bf.eq]; exact List.mem_map.2 ⟨x, hx, rfl⟩)
  have hu := ren_used (B := D.B) hnd hs hab hbk hB
  refine ⟨ro, ⟨m, fun k => if k = b then fp a else fp k, bv, BV.map fun x => if x.1 = a then (b, x.2) else x, ?_, ?_, ⟨?_, ?_, ?_⟩, ⟨?_, ?_, ?_, ?_, ?_⟩, h.rp, h.rm, fun z hz => Nat.lt_of_lt_of_le (h.lt z hz) kp.size, ?_, h.bl, h.kw, ?_⟩, fun _ _ h => h, kp.mono fun z _ hz e => by rw [e, h.rm] at hz; cases hz⟩
  · rw [kp.heap h.cell (hkeep _ (by rw [h.rp]; decide) (by rw [h.rp]; decide))]
    show some (Obj.cells (dcs D _ m bv) _ _) = some (Obj.cells (dcs (D.ren a b s) (usedOf (adel D.F a ++ [(b, s)]) (renB D.B a b) : Nat) m bv) _ _)
    rw [hu]
    rfl
  · have e : (D.ren a b s).F.map (fun x => (x.1, Value.pointer (some ⟨if x.1 = b then fp a else fp x.1, 0, none⟩))) = aset (adel (D.F.map fun x => (x.1, Value.pointer (some ⟨fp x.1, 0, none⟩))) a) b (.pointer (some ⟨fp a, 0, none⟩)) := by
      show (adel D.F a ++ [(b, s)]).map _ = _
      have h0 : aget (adel (D.F.map fun x => (x.1, Value.pointer (some ⟨fp x.1, 0, none⟩))) a) b = none := by
        rw [aget_adel_other _ _ _ (Ne.symm hab), aget_keys D.F (fun x => Value.pointer (some ⟨fp x, 0, none⟩)), hb]
        rfl
      unfold aset
      rw [h0]
      simp only [Option.isSome_none, Bool.false_eq_true, if_false, List.map_append, List.map_cons, List.map_nil, if_true]
      congr 1
      unfold adel
      rw [List.filter_map]
      apply List.map_congr_left
      intro x hx
      rw [if_neg (hne x (List.mem_filter.1 hx).1)]
    rw [e]
    exact hmap
  · intro x hx
    rcases List.mem_append.1 hx with hx | hx
    · obtain ⟨hx1, hx2⟩ := List.mem_filter.1 hx
      obtain ⟨v, h1, h2, h3⟩ := h.fl.lie x hx1
      have hr := h.fl.role x hx1
      have hxa : x.1 ≠ a := by simpa using hx2
      simp only [if_neg (hne x hx1)]
      refine ⟨v, ?_, own_kept h2 kp fun z hz => ?_, h3⟩
      · show _ = some (Obj.cells #[v, .int .i64 (moreOf (renB D.B a b) x.1 : Nat)] _ _)
        rw [moreOf_ren hab hB, if_neg (hne x hx1), if_neg hxa]
        exact kp.heap h1 (hkeep _ (by rw [hr]; decide) (by rw [hr]; decide))
      · have := h3 z hz
        exact hkeep z (by rw [this]; simp) (by rw [this]; simp)
    · simp only [List.mem_singleton] at hx
      subst hx
      obtain ⟨v, h1, h2, h3⟩ := h.fl.lie _ hs
      have hr := h.fl.role _ hs
      simp only at h1 h2 h3 hr
      simp only [if_true]
      refine ⟨v, ?_, own_kept h2 kp fun z hz => ?_, h3⟩
      · show _ = some (Obj.cells #[v, .int .i64 (moreOf (renB D.B a b) b : Nat)] _ _)
        rw [moreOf_ren hab hB, if_pos rfl]
        exact kp.heap h1 (hkeep _ (by rw [hr]; decide) (by rw [hr]; decide))
      · have := h3 z hz
        exact hkeep z (by rw [this]; simp) (by rw [this]; simp)
  · intro x hx
    rcases List.mem_append.1 hx with hx | hx
    · have hx1 := (List.mem_filter.1 hx).1
      simp only [if_neg (hne x hx1)]
      exact h.fl.role x hx1
    · simp only [List.mem_singleton] at hx
      subst hx
      simp only [if_true]
      exact h.fl.role _ hs
  · intro x hx y hy e
    have hfa : ∀ x ∈ adel D.F a, fp x.1 ≠ fp a := fun x hx e => by
      obtain ⟨hx1, hx2⟩ := List.mem_filter.1 hx
      exact (by simpa using hx2 : x.1 ≠ a) (h.fl.inj x hx1 _ hs e)
    rcases List.mem_append.1 hx with hx | hx <;> rcases List.mem_append.1 hy with hy | hy
    · simp only [if_neg (hne x (List.mem_filter.1 hx).1), if_neg (hne y (List.mem_filter.1 hy).1)] at e
      exact h.fl.inj x (List.mem_filter.1 hx).1 y (List.mem_filter.1 hy).1 e
    · simp only [List.mem_singleton] at hy
      subst hy
      simp only [if_neg (hne x (List.mem_filter.1 hx).1), if_true] at e
      exact absurd e (hfa x hx)
    · simp only [List.mem_singleton] at hx
      subst hx
      simp only [if_neg (hne y (List.mem_filter.1 hy).1), if_true] at e
      exact absurd e.symm (hfa y hy)
    · simp only [List.mem_singleton] at hx hy
      rw [hx, hy]
  · show renB D.B a b = _
    unfold renB
    rw [h.bf.eq, List.map_map, List.map_map]
    apply List.map_congr_left
    intro x _
    simp only [Function.comp]
    split <;> rfl
  · have e : wcs (fun k => if k = b then fp a else fp k) (BV.map fun x => if x.1 = a then (b, x.2) else x) = wcs fp BV := by
      clear hmap
      unfold wcs
      generalize BV = l at hBV
      induction l with
      | nil => rfl
      | cons y l ih =>
        simp only [List.map_cons, List.flatMap_cons]
        rw [ih (fun x hx => hBV x (List.mem_cons_of_mem _ hx))]
        congr 1
        by_cases e : y.1 = a
        · rw [if_pos e]; simp [e]
        · rw [if_neg e, if_neg (hBV y (List.mem_cons_self ..))]
    rw [e]
    have hl : (renB D.B a b).length = D.B.length := by simp [renB]
    show wF.ownsRow 0 133 2 bv (renB D.B a b).length _
    rw [hl]
    exact own_kept h.bf.row kp fun z hz => hkeep z (by rw [h.bf.role z hz]; simp) (by rw [h.bf.role z hz]; simp)
  · exact h.bf.role
  · intro x hx
    obtain ⟨y, hy, rfl⟩ := List.mem_map.1 hx
    obtain ⟨h1, h2⟩ := h.bf.data y hy
    have h3 := own_kept h1 kp fun z hz => hkeep z (by rw [h2 z hz]; simp) (by rw [h2 z hz]; simp)
    split
    · exact ⟨h3, h2⟩
    · exact ⟨h3, h2⟩
  · have e : blks (BV.map fun x => if x.1 = a then (b, x.2) else x) = blks BV := by
      unfold blks
      rw [List.filterMap_map]
      congr 1
      funext x
      simp only [Function.comp]
      split <;> rfl
    rw [e]
    exact h.bf.one
  · intro x hx
    obtain ⟨y, hy, rfl⟩ := List.mem_map.1 (show x ∈ renB D.B a b from hx)
    show _ ∈ (adel D.F a ++ [(b, s)] : List (Nm × By)).map (fun y => y.1)
    rw [List.map_append]
    by_cases e : y.1 = a
    · rw [if_pos e]; exact List.mem_append_right _ (by simp)
    · rw [if_neg e]
      obtain ⟨s', hs'⟩ := mem_keys (h.names y hy)
      exact List.mem_append_left _ (List.mem_map.2 ⟨(y.1, s'), List.mem_filter.2 ⟨hs', by simpa using e⟩, rfl⟩)
  · show ((usedOf (adel D.F a ++ [(b, s)]) (renB D.B a b) : Nat) : Int) ≤ D.blocks
    rw [hu]; exact h.us
end Go.Proofs.YtbkhademplgicaaGreatDoor

namespace Go.Proofs.YtbkhademplgicaaGreatDoor
open Go.RowKit
set_option linter.unusedVariables false
set_option linter.unusedSimpArgs false
def ren1D (D : DS) (a b : Nm) (s : By) : DS := if a = b then D else (D.gone b).ren a b s
set_option maxRecDepth 100000 in
set_option maxHeartbeats 1000000 in
theorem rename1_any (p : Nat) (ro : Nat → Role) (D : DS) (a b : Nm) (s : By) (ab bb db fb : Nat) (hbB : D.B.length ≤ 1073741824) (w : World) (m : Nat) (fp : Nm → Nat) (bv : Value) (BV : List (Nm × By × Value)) (h : Dk0 w p ro D m fp bv BV) (hs : aget D.F a = some s)
    (b1 : w.heap[ab]? = some (.cells #[.string a] 9 (0, 0))) (b2 : w.heap[bb]? = some (.cells #[.string b] 9 (0, 0))) (b3 : w.heap[db]? = some (.cells #[.pointer (some ⟨p, 0, none⟩)] 51 (0, 0))) (b4 : w.heap[fb]? = some (.cells #[.pointer (some ⟨fp a, 0, none⟩)] 105 (0, 0)))
    (r1 : ro ab = .none) (r2 : ro bb = .none) (r3 : ro db = .none) (r4 : ro fb = .none) :
    Calls Tryz.prog 106 #[.pointer (some ⟨ab, 0, none⟩), .pointer (some ⟨bb, 0, none⟩), .pointer (some ⟨db, 0, none⟩), .pointer (some ⟨fb, 0, none⟩)] w (Op1 w ro p 0 (ren1D D a b s)) := by
  have H := hid h
  have c1 := blk_cell b1; have c2 := blk_cell b2; have c3 := blk_cell b3; have c4 := blk_cell b4
  by_cases hab : a = b
  · subst hab
    clear h hs b1 b2 b3 b4
    go_enter Tryz.func106, Tryz.ntmps106
    go_wp2_with fail
    go_ret
    refine ⟨rfl, ?_⟩
    rw [ren1D, if_pos rfl]
    exact Dk.nx ⟨m, fp, bv, BV, H.out⟩ (Kp.refl _ _)
  · have hne := bs_ne hab
    have hne2 : (a.toList == b.toList) = false := beq_eq_false_iff_ne.2 hne
    have hm : ro m = .map := h.rm
    have n1 : ab ≠ m := fun e => by rw [e, hm] at r1; cases r1
    have n2 : bb ≠ m := fun e => by rw [e, hm] at r2; cases r2
    have n3 : db ≠ m := fun e => by rw [e, hm] at r3; cases r3
    have n4 : fb ≠ m := fun e => by rw [e, hm] at r4; cases r4
    have hpm : p ≠ m := fun e => by have := h.rp; rw [e, h.rm] at this; cases this
    have HAB := hid hab; have HS := hid hs
    have B1 := hid b1; have B2 := hid b2; have B3 := hid b3; have B4 := hid b4
    have R1 := hid r1; have R2 := hid r2; have R3 := hid r3; have R4 := hid r4
    clear h hs b1 b2 b3 b4 r1 r2 r3 r4 hm hab
    go_enter Tryz.func106, Tryz.ntmps106
    go_wp2_with fail
    refine (gone_any p ro D b m fp bv BV hbB w H.out).mono ?_
    rintro e W ⟨rfl, ⟨bv2, BV2, hD2⟩, kG⟩
    have b1 := kG.heap B1.out R1.out
    have b2 := kG.heap B2.out R2.out
    have b3 := kG.heap B3.out R3.out
    have b4 := kG.heap B4.out R4.out
    have c1 := blk_cell b1; have c2 := blk_cell b2; have c3 := blk_cell b3; have c4 := blk_cell b4
    have c5 := blk_cell hD2.cell
    unfold dcs at c5
    have H2 := hid hD2; have KG := hid kG
    have B1' := hid b1; have B2' := hid b2; have B3' := hid b3; have B4' := hid b4; have B5 := hid hD2.cell
    clear hD2 kG b1 b2 b3 b4
    go_wp2_with fail
    refine RegionLast.wp_region_end_quiet (by kernel_rfl) (by kernel_rfl) (by kernel_rfl) ?_; simp only [List.length_cons, List.length_nil, Nat.zero_add, Nat.reduceAdd, Nat.reduceSub, List.take_succ_cons, List.take_zero, List.drop_succ_cons, List.drop_zero]
    repeat (go_big_quiet_step (fail))
    refine wpQuiet_nil ?_; intro _ hw'; obtain ⟨nq, hw''⟩ := hw'; subst hw''
    generalize nq = qa
    go_wp2_with (at_delete; go_loud (refine wpList_mapdel strKey Tryz.underlying88 (L := (D.gone b).F.map fun x => (x.1, Value.pointer (some ⟨fp x.1, 0, none⟩))) (by exact H2.out.map.all ((Kp.refl _ _).drewN _)) a rfl _ _ rfl rfl rfl ?_); intro w3 hm3 hk3; have k3 : Kp (fun b => b ≠ m) W w3 := ((Kp.refl (fun b => b ≠ m) W).drewN qa).trans hk3; have d1 := blk_cell (k3.heap B1'.out n1); have d2 := blk_cell (k3.heap B2'.out n2); have d3 := blk_cell (k3.heap B3'.out n3); have d4 := blk_cell (k3.heap B4'.out n4); have d5 := blk_cell (k3.heap B5.out hpm); unfold dcs at d5; have K3 := hid k3; have M3 := hid hm3; clear k3 hm3 hk3)
    simp only [Act.put]
    refine RegionLast.wp_region_end_quiet (by kernel_rfl) (by kernel_rfl) (by kernel_rfl) ?_; simp only [List.length_cons, List.length_nil, Nat.zero_add, Nat.reduceAdd, Nat.reduceSub, List.take_succ_cons, List.take_zero, List.drop_succ_cons, List.drop_zero]
    repeat (go_big_quiet_step (fail))
    refine wpQuiet_nil ?_; intro _ hw'; obtain ⟨nq, hw''⟩ := hw'; subst hw''
    go_wp2_with (at_mapUpdate; go_loud (refine wpList_mapset strKey Tryz.underlying88 (L := adel ((D.gone b).F.map fun x => (x.1, Value.pointer (some ⟨fp x.1, 0, none⟩))) a) (by exact M3.out.all ((Kp.refl _ _).drewN _)) b (.pointer (some ⟨fp a, 0, none⟩)) rfl _ _ _ rfl rfl rfl rfl ?_); intro w4 hm4 hk4; have k4 : Kp (fun b => b ≠ m) W w4 := K3.out.trans (((Kp.refl (fun b => b ≠ m) w3).drewN nq).trans hk4); have K4 := hid k4; have M4 := hid hm4; clear k4 hm4 hk4)
    go_ret
    refine ⟨rfl, ?_⟩
    rw [ren1D, if_neg HAB.out]
    refine Nx.from KG.out (H2.out.renamed (s := s) ?_ HAB.out (aget_adel_same D.F b) M4.out K4.out)
    have h1 : aget (adel D.F b) a = some s := by rw [aget_adel_other _ _ _ HAB.out]; exact HS.out
    exact aget_mem h1
end Go.Proofs.YtbkhademplgicaaGreatDoor

namespace Go.Proofs.YtbkhademplgicaaGreatDoor
open Go.RowKit
set_option linter.unusedVariables false
set_option linter.unusedSimpArgs false
abbrev noVal : Value → Option (DataW Unit × List MemPlace) := fun _ => some (.lit (.bool true), [])
theorem smap_own {w : World} {m : Nat} {L : List (Nm × Value)} (h : SMap w m L) (hl : L.length ≤ maxLen) (hk : ∀ x ∈ L, x.1.size ≤ maxLen) :
    ∃ D0 : DataW Unit, w.ownsMap Tryz.prog 9 noVal m L.length D0 ∧ (strKeys D0).Perm (L.map fun x => x.1.data.toList) ∧ Maps.size D0 = L.length := by
  obtain ⟨es, ck, hb, hst, hL⟩ := h
  have hlen : es.size = L.length := by
    have := congrArg List.length hL
    simpa using this
  have hkeys : ∀ x ∈ es.toList, ∃ y ∈ L, x.key = .string y.1 := by
    intro x hx
    have : (x.key, x.val) ∈ L.map (fun x => (Value.string x.1, x.2)) := hL ▸ List.mem_map.2 ⟨x, hx, rfl⟩
    obtain ⟨y, hy, e⟩ := List.mem_map.1 this
    exact ⟨y, hy, (Prod.mk.inj e).1.symm⟩
  have hrd : ∀ x ∈ es.toList, ∃ s : ByteArray, x.key = .string s ∧ WideElems.rd Tryz.prog 9 noVal x = some (.string s.data.toList, .lit (.bool true)) := by
    intro x hx
    obtain ⟨y, hy, e⟩ := hkeys x hx
    refine ⟨y.1, e, ?_⟩
    unfold WideElems.rd
    rw [e, WideMaps.keyOf_string_mk Tryz.underlying9 (hk y hy)]
    rfl
  refine ⟨.map ((es.toList.map (WideElems.rg Tryz.prog 9 noVal)).foldr DataW.insert []), ⟨es, ck, hb, ⟨by rw [hlen]; exact hl, hst, fun x hx => ?_⟩, by rw [hlen]; exact Nat.le_refl _, rfl⟩, ?_, ?_⟩
  · obtain ⟨s, _, h⟩ := hrd x hx
    exact ⟨_, h⟩
  · show ((es.toList.map (WideElems.rg Tryz.prog 9 noVal)).foldr DataW.insert [] |>.map fun p => strOf p.1).Perm _
    refine ((WideShapes.sorted_perm _).map _).trans ?_
    rw [List.map_map]
    have : es.toList.map ((fun p : Lit × DataW Unit => strOf p.1) ∘ WideElems.rg Tryz.prog 9 noVal) = L.map fun x => x.1.data.toList := by
      have h2 : L.map (fun x => x.1.data.toList) = (L.map fun x => (Value.string x.1, x.2)).map (fun p => match p.1 with | .string s => s.data.toList | _ => []) := by
        rw [List.map_map]; rfl
      rw [h2, ← hL, List.map_map]
      apply List.map_congr_left
      intro x hx
      obtain ⟨s, e, h⟩ := hrd x hx
      simp only [Function.comp, WideElems.rg_of h, e, strOf]
    rw [this]
  · show ((es.toList.map (WideElems.rg Tryz.prog 9 noVal)).foldr DataW.insert []).length = _
    rw [(WideShapes.sorted_perm _).length_eq, List.length_map]
    simpa using hlen
def ListP (w : World) (D : DS) (e : Ending) (w' : World) : Prop :=
  ∃ (v : Value) (ks : List Nm), e = .returned v ∧ ks.Perm (D.F.map (·.1)) ∧ ks.Pairwise (fun a b : Nm => a.data.toList ≤ b.data.toList) ∧ w'.ownsRow w.heap.size 9 1 v ks.length (ks.map Value.string) ∧ Kp All w w'
set_option maxRecDepth 100000 in
theorem list_any (p : Nat) (ro : Nat → Role) (D : DS) (hoff : D.off = false) (hnm : ∀ x ∈ D.F, x.1.size ≤ 1000) (hfl : D.F.length ≤ 16777216) (w : World) (h : Dk w p ro D) :
    Calls Tryz.prog 30 #[.pointer (some ⟨p, 0, none⟩)] w (ListP w D) := by
  obtain ⟨m, fp, bv, BV, h⟩ := h
  have H := hid h
  have c1 := blk_cell h.cell
  have hmx : (9223372036854775807 : Nat) ≤ maxLen := by decide
  obtain ⟨D0, hown, hperm, hsize⟩ := smap_own h.map (by rw [List.length_map]; omega) (fun x hx => by
    obtain ⟨y, hy, rfl⟩ := List.mem_map.1 hx
    have := hnm y hy
    simp only; omega)
  rw [List.length_map] at hown hsize
  have HOW := hid hown; have HPM := hid hperm; have HSZ := hid hsize; have HOF := hid hoff; have HFL := hid hfl
  unfold dcs at c1
  rw [hoff] at c1
  clear h hown hperm hsize hoff hnm hfl
  go_enter Tryz.func30, Tryz.ntmps30
  go_wp2_with fail
  refine (on_any p m D _ bv w H.out.cell).mono ?_
  rw [HOF.out]
  rintro e w1 ⟨rfl, rfl⟩
  go_wp2_with fail
  refine (callsIn_wide.1 (Tryz.maps_Keys_70 (some m) w)).mono ?_
  rintro e w1 ⟨rfl, rfl⟩
  go_wp2_with fail
  refine (callsIn_wide.1 (Tryz.slices_Sorted_keys_69_70 m D.F.length D0 noVal w HOW.out (by rw [HSZ.out]; have := HFL.out; omega) (by rw [HSZ.out]; have := HFL.out; omega))).mono ?_
  rintro e w2 ⟨v, ss, rfl, hS, hrow, hnil, hb⟩
  have HS := hid hS; have HROW := hid hrow; have HB := hid hb
  obtain ⟨VA, vc, rfl⟩ := own_shape hrow
  clear hS hrow hnil hb
  go_wp2_with fail
  go_ret
  have hml : (ss.mergeSort fun x y => decide (x ≤ y)).Perm ss := List.mergeSort_perm ss _
  have e1 : ((ss.mergeSort fun x y => decide (x ≤ y)).map fun l => (⟨l.toArray⟩ : Nm)).map Value.string = (ss.mergeSort fun x y => decide (x ≤ y)).map encStr := by
    rw [List.map_map]; rfl
  refine ⟨_, (ss.mergeSort fun x y => decide (x ≤ y)).map fun l => ⟨l.toArray⟩, rfl, ?_, ?_, ?_, ?_⟩
  · refine ((hml.trans (HS.out.trans HPM.out)).map _).trans ?_
    rw [List.map_map, List.map_map]
    have : D.F.map (((fun l => (⟨List.toArray l⟩ : Nm)) ∘ (fun x : Nm × Value => x.1.data.toList)) ∘ fun x => (x.1, Value.pointer (some ⟨fp x.1, 0, none⟩))) = D.F.map (·.1) := by
      apply List.map_congr_left
      intro x _
      simp [Function.comp]
    rw [this]
  · have hpw := List.pairwise_mergeSort (le := fun x y : List UInt8 => decide (x ≤ y)) (fun a b c h1 h2 => by
      simp only [decide_eq_true_eq] at *
      exact List.le_trans h1 h2) (fun a b => by
      simp only [Bool.or_eq_true, decide_eq_true_eq]
      exact List.le_total a b) ss
    rw [List.pairwise_map]
    exact hpw.imp fun h => by simpa using h
  · rw [e1, List.length_map, hml.length_eq]
    have h := HROW.out
    obtain ⟨h1, h2⟩ := h
    refine ⟨h1, ?_⟩
    rcases h2 with hn | ⟨g, cap, cur, e, hb, rest⟩
    · exact .inl hn
    · exact .inr ⟨g, cap, cur, e, by rw [World.size_alloc] at hb; omega, rest⟩
  · exact (Kp.al _ _).trans (Kp.of_below HB.out (Nat.le_refl _))
end Go.Proofs.YtbkhademplgicaaGreatDoor

namespace Go.Proofs.YtbkhademplgicaaGreatDoor
open Go.RowKit
set_option linter.unusedVariables false
/-- the first n bytes of the buffer, write by write -/
def takeB : List (Nm × By) → Nat → List (Nm × By)
  | [], _ => []
  | x :: r, n => (x.1, x.2.take n) :: takeB r (n - min x.2.length n)
theorem aget_upd {κ β : Type} [DecidableEq κ] (F : List (κ × β)) (n k : κ) (f : β → β) : aget (F.map fun y => if y.1 = n then (y.1, f y.2) else y) k = (aget F k).map fun s => if k = n then f s else s := by
  induction F with
  | nil => rfl
  | cons y l ih =>
    unfold aget at ih ⊢
    rw [List.map_cons, List.find?_cons, List.find?_cons]
    have e1 : (if y.1 = n then (y.1, f y.2) else y).1 = y.1 := by split <;> rfl
    rw [e1]
    by_cases h : y.1 = k
    · have hb : (y.1 == k) = true := by simpa using h
      rw [hb]
      simp only [Option.map_some]
      congr 1
      by_cases hn : y.1 = n
      · rw [if_pos hn, if_pos (by rw [← h]; exact hn)]
      · rw [if_neg hn, if_neg (by rw [← h]; exact hn)]
    · have hb : (y.1 == k) = false := by simpa using h
      rw [hb]
      exact ih
theorem aget_addTo (F : List (Nm × By)) (n k : Nm) (b : By) : aget (addTo F n b) k = (aget F k).map fun s => if k = n then s ++ b else s := aget_upd F n k (fun s => s ++ b)
theorem aget_settle : ∀ (B F : List (Nm × By)) (n : Nat) (k : Nm), aget (settleF F B n) k = (aget F k).map fun s => s ++ pieces (takeB B n) k
  | [], F, n, k => by simp [settleF, takeB, pieces]
  | x :: r, F, n, k => by
    rw [settleF, aget_settle r, aget_addTo, Option.map_map]
    congr 1
    funext s
    simp only [Function.comp, takeB, pieces, List.flatMap_cons]
    by_cases h : k = x.1
    · rw [if_pos h, if_pos h.symm, List.append_assoc]
    · rw [if_neg h, if_neg (fun e => h e.symm), List.nil_append]
theorem settleF_keys : ∀ (B F : List (Nm × By)) (n : Nat), (settleF F B n).map (·.1) = F.map (·.1)
  | [], F, n => rfl
  | x :: r, F, n => by rw [settleF, settleF_keys r, addTo_keys]
theorem pend_cons (x : Nm × By) (r : List (Nm × By)) : pend (x :: r) = x.2.length + pend r := by simp [pend]
theorem pend_takeB : ∀ (B : List (Nm × By)) (n : Nat), pend (takeB B n) = min n (pend B)
  | [], n => by simp [takeB, pend]
  | x :: r, n => by
    rw [takeB, pend_cons, pend_cons, pend_takeB r, List.length_take]
    omega
theorem takeB_all : ∀ (B : List (Nm × By)) (n : Nat), pend B ≤ n → takeB B n = B
  | [], n, _ => rfl
  | x :: r, n, h => by
    rw [pend_cons] at h
    rw [takeB, takeB_all r _ (by omega), List.take_of_length_le (by omega)]
theorem pieces_len (B : List (Nm × By)) (n : Nm) : (pieces B n).length = moreOf B n := by
  induction B with
  | nil => rfl
  | cons x l ih =>
    simp only [pieces, List.flatMap_cons, List.length_append, moreOf] at ih ⊢
    rw [ih]
    split <;> rfl
theorem pieces_pre : ∀ (B : List (Nm × By)) (n : Nat) (k : Nm), pieces (takeB B n) k <+: pieces B k
  | [], n, k => List.prefix_refl _
  | x :: r, n, k => by
    simp only [takeB, pieces, List.flatMap_cons]
    by_cases h : x.1 = k
    · rw [if_pos h, if_pos h]
      by_cases hl : x.2.length ≤ n
      · rw [List.take_of_length_le hl]
        exact (List.prefix_append_right_inj x.2).2 (pieces_pre r _ k)
      · have : n - min x.2.length n = 0 := by omega
        rw [this]
        have h0 : pieces (takeB r 0) k = [] := by
          have := pend_takeB r 0
          have h2 := pieces_le (takeB r 0) k
          exact List.eq_nil_of_length_eq_zero (by omega)
        unfold pieces at h0
        rw [h0, List.append_nil]
        exact (List.take_prefix n x.2).trans (List.prefix_append _ _)
    · rw [if_neg h, if_neg h, List.nil_append, List.nil_append]
      exact pieces_pre r _ k
theorem takeB_names : ∀ (B : List (Nm × By)) (n : Nat) (x : Nm × By), x ∈ takeB B n → ∃ y ∈ B, y.1 = x.1
  | [], n, x, h => by cases h
  | y :: r, n, x, h => by
    rw [takeB] at h
    cases h with
    | head => exact ⟨y, List.mem_cons_self .., rfl⟩
    | tail _ h => obtain ⟨z, h1, h2⟩ := takeB_names r _ x h; exact ⟨z, List.mem_cons_of_mem _ h1, h2⟩
theorem sum_moreOf {T : List (Nm × By)} {ds : List Nm} (hn : ds.Nodup) (h : ∀ x ∈ T, x.1 ∈ ds) : (ds.map fun n => moreOf T n).sum = pend T := by
  induction T with
  | nil =>
    have : ∀ l : List Nm, (l.map fun _ => 0).sum = 0 := fun l => by induction l <;> simp_all
    exact this ds
  | cons x T ih =>
    have h1 := ih fun y hy => h y (List.mem_cons_of_mem _ hy)
    have h2 := h x (List.mem_cons_self ..)
    rw [pend_cons, ← h1]
    clear ih h1 h
    induction ds with
    | nil => cases h2
    | cons d ds ih =>
      obtain ⟨hd, hn⟩ := List.nodup_cons.1 hn
      simp only [List.map_cons, List.sum_cons, moreOf]
      by_cases e : x.1 = d
      · have : (ds.map fun n => (if x.1 = n then x.2.length else 0) + moreOf T n) = ds.map fun n => moreOf T n := by
          apply List.map_congr_left
          intro n hm
          rw [if_neg (fun e2 => hd (by rw [← e, e2]; exact hm)), Nat.zero_add]
        rw [if_pos e, this]
        omega
      · have h3 : x.1 ∈ ds := by
          cases h2 with
          | head => exact absurd rfl e
          | tail _ h => exact h
        have := ih hn h3
        simp only [moreOf] at this
        rw [if_neg e]
        omega
/-- does it stand among the first i? -/
def again (names : List Nm) (i : Nat) (s : Nm) : Bool := (names.take i).any fun t => decide (s = t)
theorem again_iff {names : List Nm} {i : Nat} {s : Nm} : again names i s = true ↔ s ∈ names.take i := by
  unfold again
  rw [List.any_eq_true]
  constructor
  · rintro ⟨t, h1, h2⟩
    rw [of_decide_eq_true h2]; exact h1
  · exact fun h => ⟨s, h, decide_eq_true rfl⟩
theorem again_not {names : List Nm} {i : Nat} {s : Nm} (h : s ∉ names.take i) : again names i s = false := by
  cases hb : again names i s with
  | false => rfl
  | true => exact absurd (again_iff.1 hb) h
/-- the good names, each where it first stands, of the first i -/
def firsts (names : List Nm) : Nat → List Nm
  | 0 => []
  | i + 1 => firsts names i ++ (match names[i]? with
    | none => []
    | some s => if goodB s && !again names i s then [s] else [])
theorem firsts_mem (names : List Nm) : ∀ (i : Nat) (s : Nm), s ∈ firsts names i ↔ s ∈ names.take i ∧ goodB s = true
  | 0, s => by simp [firsts]
  | i + 1, s => by
    rw [firsts, List.mem_append, firsts_mem names i s, List.take_add_one, List.mem_append]
    cases h : names[i]? with
    | none => simp
    | some t =>
      simp only [Option.toList_some, List.mem_singleton]
      by_cases hg : goodB t = true
      · by_cases hc : t ∈ names.take i
        · have : again names i t = true := again_iff.2 hc
          rw [this]
          simp only [hg, Bool.not_true, Bool.and_false, Bool.false_eq_true, if_false, List.not_mem_nil, or_false]
          constructor
          · rintro ⟨h1, h2⟩; exact ⟨.inl h1, h2⟩
          · rintro ⟨h1 | rfl, h2⟩
            · exact ⟨h1, h2⟩
            · exact ⟨hc, h2⟩
        · have : again names i t = false := again_not hc
          rw [this]
          simp only [hg, Bool.not_false, Bool.and_true, if_true, List.mem_singleton]
          constructor
          · rintro (⟨h1, h2⟩ | rfl)
            · exact ⟨.inl h1, h2⟩
            · exact ⟨.inr rfl, hg⟩
          · rintro ⟨h1 | rfl, h2⟩
            · exact .inl ⟨h1, h2⟩
            · exact .inr rfl
      · simp only [hg, Bool.false_and, Bool.false_eq_true, if_false, List.not_mem_nil, or_false]
        constructor
        · rintro ⟨h1, h2⟩; exact ⟨.inl h1, h2⟩
        · rintro ⟨h1 | rfl, h2⟩
          · exact ⟨h1, h2⟩
          · exact absurd h2 hg
theorem firsts_nodup (names : List Nm) : ∀ i, (firsts names i).Nodup
  | 0 => List.nodup_nil
  | i + 1 => by
    rw [firsts]
    cases h : names[i]? with
    | none => simpa using firsts_nodup names i
    | some t =>
      simp only
      split
      · rename_i hc
        simp only [Bool.and_eq_true, Bool.not_eq_true', ] at hc
        rw [List.nodup_append]
        refine ⟨firsts_nodup names i, by simp, fun a ha b hb e => ?_⟩
        simp only [List.mem_singleton] at hb
        subst hb e
        have := ((firsts_mem names i a).1 ha).1
        rw [again_iff.2 this] at hc
        exact absurd hc.2 (by decide)
      · simpa using firsts_nodup names i
end Go.Proofs.YtbkhademplgicaaGreatDoor

namespace Go.Proofs.YtbkhademplgicaaGreatDoor
open Go.RowKit
set_option linter.unusedVariables false
set_option linter.unusedSimpArgs false
def renErr (D : DS) (a b : Nm) : Int := if D.off then 9 else if goodB b then (match aget D.F a with
  | none => 4
  | some _ => if D.fit then 0 else 9) else 3
def renD (D : DS) (a b : Nm) : DS := if D.off then D else if goodB b then (match aget D.F a with
  | none => D
  | some s => if D.fit then ren1D D.begun a b s else D.begun) else D
theorem en46 : Enters Tryz.prog 106 := enters_of Tryz.func106 (by kernel_rfl) rfl
set_option maxRecDepth 100000 in
set_option maxHeartbeats 1000000 in
theorem rename_any (p : Nat) (ro : Nat → Role) (D : DS) (hok : D.Ok) (a b : Nm) (hsz : b.size ≤ 9223372036854775806) (w : World) (h : Dk w p ro D) :
    Calls Tryz.prog 61 #[.pointer (some ⟨p, 0, none⟩), .string a, .string b] w (Op1 w ro p (renErr D a b) (renD D a b)) := by
  have HD := hid h
  obtain ⟨m, fp, bv, BV, h⟩ := h
  have H := hid h
  have hp := blk_lt h.cell
  have B1 := hid h.cell
  have hmf : ∀ (fn : Fn) (first cap : Array Value) (w : World), (Instr.makeFunc fn first cap).run Tryz.prog w = .ok (.func fn first cap) w := fun _ _ _ _ => rfl
  obtain ⟨bo, hbo⟩ : ∃ x, D.off = x := ⟨_, rfl⟩
  have HBO := hid hbo
  have hz : ∀ w : World, (zeroValue 105).run Tryz.prog w = .ok (.pointer none) w := fun w => by kernel_rfl
  cases bo
  · obtain ⟨y, hy⟩ : ∃ y, aget D.F a = y := ⟨_, rfl⟩
    have HY := hid hy
    obtain ⟨gb, hgb⟩ : ∃ x, goodB b = x := ⟨_, rfl⟩
    have HG := hid hgb
    have hlk := fun {W : World} (k : Kp All w W) => ((h.map.all k).lookup strKey Tryz.underlying88 a (.pointer none) (hz _)).2
    rw [aget_keys D.F (fun x => Value.pointer (some ⟨fp x, 0, none⟩)), hy] at hlk
    have hpo : ∃ po : Option Addr, ((y.map fun _ => Value.pointer (some ⟨fp a, 0, none⟩)).getD (Value.pointer none)) = .pointer po ∧ (y = none → po = none) ∧ (∀ s, y = some s → po = some ⟨fp a, 0, none⟩) := by
      cases y with
      | none => exact ⟨none, rfl, fun _ => rfl, fun s h => by cases h⟩
      | some s => exact ⟨_, rfl, (fun h => by cases h), fun _ _ => rfl⟩
    obtain ⟨po, hpo, hpo1, hpo2⟩ := hpo
    have hlk2 : ∀ W, Kp All w W → (Instr.lookup 88 (.map (some m)) (.string a) false).run Tryz.prog W = .ok (.pointer po) W := fun W k => by rw [← hpo]; exact hlk k
    have HLK := hid hlk2; have HP1 := hid hpo1; have HP2 := hid hpo2
    clear h hbo hy hgb hlk hlk2 hpo hpo1 hpo2
    go_enter Tryz.func61, Tryz.ntmps61
    go_wp2_with fail
    refine (may_any p m D _ bv _ (by exact blk_alloc (blk_alloc (blk_alloc B1.out _) _) _)).mono ?_
    rintro e w1 ⟨rfl, rfl⟩
    rw [show mayErr D = 0 from by rw [mayErr, HBO.out]; rfl]
    have k3 : Kp All w (((w.alloc (.cells #[.pointer (some ⟨p, 0, none⟩)] 51)).alloc (.cells #[.string a] 9)).alloc (.cells #[.string b] 9)) := ((Kp.al _ _).alloc _).alloc _
    have c1 := blk_cell (k3.heap B1.out trivial)
    have x1 := blk_alloc (blk_alloc (blk_new w (.cells #[.pointer (some ⟨p, 0, none⟩)] 51)) (.cells #[.string a] 9)) (.cells #[.string b] 9)
    have x2 := blk_alloc (blk_new (w.alloc (.cells #[.pointer (some ⟨p, 0, none⟩)] 51)) (.cells #[.string a] 9)) (.cells #[.string b] 9)
    have x3 := blk_new ((w.alloc (.cells #[.pointer (some ⟨p, 0, none⟩)] 51)).alloc (.cells #[.string a] 9)) (.cells #[.string b] 9)
    rw [World.size_alloc] at x2
    rw [World.size_alloc, World.size_alloc] at x3
    have c2 := blk_cell x1; have c3 := blk_cell x2; have c4 := blk_cell x3
    have hl1 := HLK.out _ k3.drew
    obtain ⟨W3, hW3⟩ : ∃ W3, W3 = ((w.alloc (.cells #[.pointer (some ⟨p, 0, none⟩)] 51)).alloc (.cells #[.string a] 9)).alloc (.cells #[.string b] 9) := ⟨_, rfl⟩
    rw [← hW3] at c1 c2 c3 c4 x1 x2 x3 k3 hl1
    have hs3 : W3.heap.size = w.heap.size + 1 + 1 + 1 := by rw [hW3]; simp
    have X1 := hid x1; have X2 := hid x2; have X3 := hid x3; have K3 := hid k3
    unfold dcs at c1
    clear x1 x2 x3 k3
    rw [← hW3]
    clear hW3
    go_wp2_with fail
    refine RegionLast.wp_region_end_held (S := fun w' => (∀ i, w'.cell? ⟨p, i, none⟩ = (#[.int .i64 D.blocks, .int .i64 (usedOf D.F D.B : Nat), .map (some m), bv, .bool D.off, .int .i64 D.ops, .int .i64 D.fails, .int .i64 D.keep] : Array Value)[i]?) ∧ (∀ i, w'.cell? ⟨w.heap.size, i, none⟩ = (#[.pointer (some ⟨p, 0, none⟩)] : Array Value)[i]?) ∧ (∀ i, w'.cell? ⟨w.heap.size + 1, i, none⟩ = (#[.string a] : Array Value)[i]?) ∧ (Instr.lookup 88 (.map (some m)) (.string a) false).run Tryz.prog w' = .ok (.pointer po) w') (by kernel_rfl) (by kernel_rfl) ⟨c1, c2, c3, hl1⟩ (fun hHeld => ?_)
    simp only [List.length_cons, List.length_nil, Nat.zero_add, Nat.reduceAdd, Nat.reduceSub, List.take_succ_cons, List.take_zero, List.drop_succ_cons, List.drop_zero]
    (refine wpAnyH_take (i := 0) (oi := _) (v := ?_) (by (simp only [List.getElem?_toArray, List.getElem?_cons_succ, List.getElem?_cons_zero]); rfl) (by kernel_rfl) (by kernel_rfl) (by kernel_rfl) (by exact fun _ _ _ h => h) (Or.inl ⟨by rfl, ?_⟩) (by assumption) ?_; rotate_left; focus ((intro w hSw; (try dsimp only at hSw); go_simp) <;> with_reducible rfl); (try simp only [Act.put, List.getElem_toArray, List.getElem_cons_succ, List.getElem_cons_zero, List.setIfInBounds_toArray, List.set_cons_zero, List.set_cons_succ]))
    (refine wpAnyH_take (i := 1) (oi := _) (v := ?_) (by (simp only [List.getElem?_toArray, List.getElem?_cons_succ, List.getElem?_cons_zero]); rfl) (by kernel_rfl) (by kernel_rfl) (by kernel_rfl) (by exact fun _ _ _ h => h) (Or.inl ⟨by rfl, ?_⟩) (by assumption) ?_; rotate_left; focus ((intro w hSw; (try dsimp only at hSw); go_simp) <;> with_reducible rfl); (try simp only [Act.put, List.getElem_toArray, List.getElem_cons_succ, List.getElem_cons_zero, List.setIfInBounds_toArray, List.set_cons_zero, List.set_cons_succ]))
    (refine wpAnyH_take (i := 2) (oi := _) (v := ?_) (by (simp only [List.getElem?_toArray, List.getElem?_cons_succ, List.getElem?_cons_zero]); rfl) (by kernel_rfl) (by kernel_rfl) (by kernel_rfl) (by exact fun _ _ _ h => h) (Or.inl ⟨by rfl, ?_⟩) (by assumption) ?_; rotate_left; focus ((intro w hSw; (try dsimp only at hSw); go_simp) <;> with_reducible rfl); (try simp only [Act.put, List.getElem_toArray, List.getElem_cons_succ, List.getElem_cons_zero, List.setIfInBounds_toArray, List.set_cons_zero, List.set_cons_succ]))
    (refine wpAnyH_take (i := 3) (oi := _) (v := ?_) (by (simp only [List.getElem?_toArray, List.getElem?_cons_succ, List.getElem?_cons_zero]); rfl) (by kernel_rfl) (by kernel_rfl) (by kernel_rfl) (by exact fun _ _ _ h => h) (Or.inl ⟨by rfl, ?_⟩) (by assumption) ?_; rotate_left; focus ((intro w hSw; (try dsimp only at hSw); go_simp) <;> with_reducible rfl); (try simp only [Act.put, List.getElem_toArray, List.getElem_cons_succ, List.getElem_cons_zero, List.setIfInBounds_toArray, List.set_cons_zero, List.set_cons_succ]))
    (refine wpAnyH_take (i := 4) (oi := _) (v := ?_) (by (simp only [List.getElem?_toArray, List.getElem?_cons_succ, List.getElem?_cons_zero]); rfl) (by kernel_rfl) (by kernel_rfl) (by kernel_rfl) (by exact fun _ _ _ h => h) (Or.inl ⟨by rfl, ?_⟩) (by assumption) ?_; rotate_left; focus ((intro w hSw; (try dsimp only at hSw); go_simp) <;> with_reducible rfl); (try simp only [Act.put, List.getElem_toArray, List.getElem_cons_succ, List.getElem_cons_zero, List.setIfInBounds_toArray, List.set_cons_zero, List.set_cons_succ]))
    (refine wpAnyH_take (i := 5) (oi := _) (v := ?_) (by (simp only [List.getElem?_toArray, List.getElem?_cons_succ, List.getElem?_cons_zero]); rfl) (by kernel_rfl) (by kernel_rfl) (by kernel_rfl) (by exact fun _ _ _ h => h) (Or.inl ⟨by rfl, ?_⟩) (by assumption) ?_; rotate_left; focus ((intro w hSw; (try dsimp only at hSw); go_simp) <;> with_reducible rfl); (try simp only [Act.put, List.getElem_toArray, List.getElem_cons_succ, List.getElem_cons_zero, List.setIfInBounds_toArray, List.set_cons_zero, List.set_cons_succ]))
    (try simp only [Act.put, List.setIfInBounds_toArray, List.set_cons_zero, List.set_cons_succ])
    refine wpAnyH_ready (rs := [6]) (by kernel_rfl) (by simp) ?_
    refine AllReadyH.cons rfl ?_ AllReadyH.nil
    intro KQ hKQ
    refine step_plain rfl ?_
    go_simp
    obtain ⟨W4, hW4⟩ : ∃ W4, W4 = W3.alloc (.cells #[.pointer none] 105) := ⟨_, rfl⟩
    have k4 : Kp All W3 W4.drew := by rw [hW4]; exact (Kp.al _ _).drew
    have x5 : W4.drew.heap[w.heap.size + 1 + 1 + 1]? = some (.cells #[.pointer none] 105 (0, 0)) := by rw [hW4, ← hs3]; exact blk_new W3 _
    have hs4 : W4.drew.heap.size = w.heap.size + 1 + 1 + 1 + 1 := by rw [hW4, ← hs3]; simp
    rw [← hW4]
    try rw [hs3]
    obtain ⟨W5, hW5⟩ : ∃ W5, W5 = W4.drew := ⟨_, rfl⟩
    rw [← hW5] at k4 x5 hs4 ⊢
    refine hKQ.out _ _ ⟨?_, ?_, ?_, ?_⟩ (fun hHeld2 => ?_)
    · exact blk_cell (k4.heap (K3.out.heap B1.out trivial) trivial)
    · exact blk_cell (k4.heap X1.out trivial)
    · exact blk_cell (k4.heap X2.out trivial)
    · exact HLK.out _ (K3.out.trans k4)
    clear hKQ KQ hW4 hW5
    (try simp only [Act.put, List.setIfInBounds_toArray, List.set_cons_zero, List.set_cons_succ])
    refine wpAnyH_done (by kernel_rfl) ?_ _
    unfold RegionLast.LastQ
    dsimp only
    have c5 := blk_cell x5
    have f5 := blk_free x5
    have c6 := blk_cell (k4.heap X3.out trivial)
    have c7 := blk_cell (k4.heap X1.out trivial)
    clear hHeld hHeld2
    have X5 := hid x5; have K4 := hid k4
    clear x5 k4
    go_wp2_with fail
    obtain ⟨W6, hW6⟩ : ∃ W6, W6 = W5.setCell ⟨(w.heap.size + 1 + 1 + 1), 0, none⟩ (.pointer po) := ⟨_, rfl⟩
    have k6 : Kp (fun z => z ≠ (w.heap.size + 1 + 1 + 1)) W5 W6 := by rw [hW6]; exact (Kp.refl _ _).setOut (by simp) _
    have x6 : W6.heap[(w.heap.size + 1 + 1 + 1)]? = some (.cells #[.pointer po] 105 (0, 0)) := by rw [hW6]; exact blk_set X5.out 0 _
    have k56 : Kp All w W6 := by
      have h1 := (K3.out.trans K4.out)
      exact h1.then (T := fun z => z ≠ (w.heap.size + 1 + 1 + 1)) k6 (fun i hi _ => by omega)
    rw [← hW6]
    clear hW6
    have y1 := k6.heap (K4.out.heap X1.out trivial) (by omega)
    have y2 := k6.heap (K4.out.heap X2.out trivial) (by omega)
    have y3 := k6.heap (K4.out.heap X3.out trivial) (by omega)
    have c1 := blk_cell y1; have c2 := blk_cell y2; have c3 := blk_cell y3; have c4 := blk_cell x6
    have Y1 := hid y1; have Y2 := hid y2; have Y3 := hid y3; have Y4 := hid x6; have K6 := hid k56
    clear y1 y2 y3 x6 k6 k56 c5 c6 c7 f5
    refine (good_any b hsz _).mono ?_
    rw [HG.out]
    rintro e w1 ⟨rfl, rfl⟩
    cases gb
    · go_wp2_with fail
      go_ret
      exact ⟨by rw [renErr, HBO.out, HG.out]; rfl, by unfold renD; rw [if_neg (by rw [HBO.out]; decide), if_neg (by rw [HG.out]; decide)]; exact HD.out.nx K6.out⟩
    · cases y with
      | none =>
        obtain rfl : po = none := HP1.out rfl
        go_wp2_with fail
        go_ret
        exact ⟨by rw [renErr, HBO.out, HG.out, HY.out]; rfl, by unfold renD; rw [if_neg (by rw [HBO.out]; decide), if_pos HG.out, HY.out]; exact HD.out.nx K6.out⟩
      | some s =>
        obtain rfl : po = some ⟨fp a, 0, none⟩ := HP2.out s rfl
        go_wp2_with fail
        have H3 := H.out.kept K6.out (fun _ _ => trivial)
        have hc : D.fit = true → ∀ w1, Dk0 w1 p ro D.begun m fp bv BV → Kp (fun b => b ≠ p) W6 w1 → Calls Tryz.prog 106 #[.pointer (some ⟨w.heap.size + 1, 0, none⟩), .pointer (some ⟨w.heap.size + 1 + 1, 0, none⟩), .pointer (some ⟨w.heap.size, 0, none⟩), .pointer (some ⟨(w.heap.size + 1 + 1 + 1), 0, none⟩)] w1 (Op1 w ro p 0 (ren1D D.begun a b s)) := by
          intro hfit w1 h1 k1
          obtain ⟨eF, eB, eb, eo⟩ := begun_fit hfit
          have kk : Kp (fun z => ro z = .none) w w1 := K6.out.all.trans (k1.mono fun z _ hz => ndisk H.out.rp z hz)
          have := rename1_any p ro D.begun a b s (w.heap.size + 1) (w.heap.size + 1 + 1) w.heap.size (w.heap.size + 1 + 1 + 1) (by rw [eB]; exact hok.bl) w1 m fp bv BV h1 (by rw [eF]; exact HY.out) (k1.heap Y2.out (by omega)) (k1.heap Y3.out (by omega)) (k1.heap Y1.out (by omega)) (k1.heap Y4.out (by omega)) (H.out.rnew _ (by omega)) (H.out.rnew _ (by omega)) (H.out.rnew _ (by omega)) (H.out.rnew _ (by omega))
          exact this.mono fun e w' h => h.pre kk
        refine (does_any p ro D hok.o0 hok.o1 hok.f1 _ m fp bv BV H3 106 _ en46 (Op1 w ro p 0 (ren1D D.begun a b s)) (fun _ _ h => h.num) hc).mono ?_
        rintro e w1 ⟨hn1, hn2⟩
        cases hfit : D.fit with
        | false =>
          obtain ⟨rfl, hnx⟩ := hn1 hfit
          have HNX := hid hnx
          have HFT := hid hfit
          clear hn1 hn2 hnx hfit hc H3
          go_wp2_with fail
          go_ret
          refine ⟨by rw [renErr, HBO.out, HG.out, HY.out]; simp [HFT.out], ?_⟩
          unfold renD
          rw [if_neg (by rw [HBO.out]; decide), if_pos HG.out, HY.out]
          simp only [HFT.out, Bool.false_eq_true, if_false]
          exact Nx.pre K6.out HNX.out
        | true =>
          obtain ⟨rfl, hp2⟩ := hn2 hfit
          have HP2' := hid hp2
          have HFT := hid hfit
          clear hn1 hn2 hp2 hfit hc H3
          go_wp2_with fail
          go_ret
          refine ⟨by rw [renErr, HBO.out, HG.out, HY.out]; simp [HFT.out], ?_⟩
          unfold renD
          rw [if_neg (by rw [HBO.out]; decide), if_pos HG.out, HY.out]
          simp only [HFT.out, if_true]
          exact HP2'.out
  · clear h hbo
    go_enter Tryz.func61, Tryz.ntmps61
    go_wp2_with fail
    refine (may_any p m D _ bv _ (by exact blk_alloc (blk_alloc (blk_alloc B1.out _) _) _)).mono ?_
    rintro e w1 ⟨rfl, rfl⟩
    rw [show mayErr D = 9 from by rw [mayErr, HBO.out]; rfl]
    go_wp2_with fail
    go_ret
    exact ⟨by rw [renErr, HBO.out]; rfl, by rw [renD, if_pos HBO.out]; exact HD.out.nx (((Kp.al _ _).alloc _).alloc _)⟩
end Go.Proofs.YtbkhademplgicaaGreatDoor
