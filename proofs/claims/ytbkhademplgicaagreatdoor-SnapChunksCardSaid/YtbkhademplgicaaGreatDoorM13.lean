/- The snapshot layer's indexes: the rows that it makes. NOT FINISHED. slices.Sort and slices.Reverse on a row of ints of one's own, by the library's contracts. The snapshot layer's indexes: walked once. No condition but that the disk is on and lies as Dk says. Plain: what Save does to the disk, and the counters' room. No condition. The snapshot layer's Save: its closures, walked once each. No condition but that the disk and the snapshot lie. The snapshot layer's Save: the closures that append the parts and that remove the elder ones, walked once each. No condition but that the disk and the snapshot lie. The snapshot layer's Save: the closure that removes the elder ones, walked once. No condition but that the disk and the snapshot lie. -/
import Derived.Test.YtbkhademplgicaaGreatDoorM10
import Derived.Test.YtbkhademplgicaaGreatDoorM12
import Derived.Test.YtbkhademplgicaaGreatDoorIR
import Derived.Lib.SlKeysI
set_option linter.unusedVariables false
set_option linter.unusedSimpArgs false
namespace Go.Proofs.YtbkhademplgicaaGreatDoor
open Go.RowKit
set_option linter.unusedVariables false
set_option linter.unusedSimpArgs false
/-- The numbers of the snapshots among the names. -/
def snIdx (ns : List Nm) : List Int := ns.filterMap fun n => if (snIndex n).2 then some (snIndex n).1 else none
theorem snIdx_cons (n : Nm) (ns : List Nm) : snIdx (n :: ns) = (if (snIndex n).2 then [(snIndex n).1] else []) ++ snIdx ns := by
  unfold snIdx
  rw [List.filterMap_cons]
  cases h : (snIndex n).2 <;> simp [h]
theorem snIdx_snoc (n : Nm) (ns : List Nm) : snIdx (ns ++ [n]) = snIdx ns ++ (if (snIndex n).2 then [(snIndex n).1] else []) := by
  unfold snIdx
  rw [List.filterMap_append]
  cases h : (snIndex n).2 <;> simp [h]
end Go.Proofs.YtbkhademplgicaaGreatDoor

namespace Go.Proofs.YtbkhademplgicaaGreatDoor
open Go.RowKit Go.Shelf Go.Maps Go.Sort
set_option linter.unusedVariables false
set_option linter.unusedSimpArgs false
theorem sortrow_any (base : Nat) (v : Value) (n : Nat) (zs : List Int) (hn : zs.length = n) (hn2 : n ≤ 1000000) (w : World) (h : w.ownsRow base 3 1 v n (zs.map encZ)) :
    Calls Tryz.prog 107 #[v] w fun e w' => e = .returned (.tuple #[]) ∧ w'.ownsRow base 3 1 v n ((zs.mergeSort fun x y => decide (x ≤ y)).map encZ) ∧ w.grownBy w' v.ownBlock := by
  subst hn
  rcases h.2 with ⟨rfl, hz⟩ | ⟨gb, cap, cur, rfl, hbase, hgb, r1, r2, r3, r4⟩
  · have hss : zs = [] := List.eq_nil_of_length_eq_zero hz
    subst hss
    have hc := Any.slices_Sort_int_none Tryz.sortL none 0 w
    change Calls Tryz.prog 107 _ _ _ at hc
    refine hc.mono ?_
    rintro e w' ⟨rfl, rfl⟩
    exact ⟨rfl, by simpa using h, ⟨rfl, rfl, rfl, Nat.le_refl _, fun _ _ _ => rfl⟩⟩
  · have hH : Holds encZ w gb 0 zs.toArray := holds_of_block_i hgb (by simpa using r4)
    have hc := Any.slices_Sort_int Tryz.sortL gb 0 cap zs w hH (blk_lt hgb) (by omega)
    change Calls Tryz.prog 107 _ _ _ at hc
    refine hc.mono ?_
    rintro e w' ⟨rfl, nn, os, rfl⟩
    exact ⟨rfl, ownsRow_sorted_i (by simp) hbase hgb r1 r2 r3, grownBy_sorted_i _⟩
theorem grow_nil (W : World) : Go.Sort.grow W #[] = W := by
  unfold Go.Sort.grow
  simp
theorem revrow_any (base : Nat) (v : Value) (n : Nat) (zs : List Int) (hn : zs.length = n) (hn2 : n ≤ 1000000) (w : World) (h : w.ownsRow base 3 1 v n (zs.map encZ)) :
    Calls Tryz.prog 108 #[v] w fun e w' => e = .returned (.tuple #[]) ∧ w'.ownsRow base 3 1 v n (zs.reverse.map encZ) ∧ w.grownBy w' v.ownBlock := by
  subst hn
  rcases h.2 with ⟨rfl, hz⟩ | ⟨gb, cap, cur, rfl, hbase, hgb, r1, r2, r3, r4⟩
  · have hss : zs = [] := List.eq_nil_of_length_eq_zero hz
    subst hss
    have hc := Any.slices_Reverse_int_empty Tryz.revL none 0 w
    change Calls Tryz.prog 108 _ _ _ at hc
    refine hc.mono ?_
    rintro e w' ⟨rfl, rfl⟩
    exact ⟨rfl, by simpa using h, ⟨rfl, rfl, rfl, Nat.le_refl _, fun _ _ _ => rfl⟩⟩
  · have hH : Holds encZ w gb 0 zs.toArray := holds_of_block_i hgb (by simpa using r4)
    have hc := Any.slices_Reverse_int Tryz.revL gb 0 cap zs w hH (by omega)
    change Calls Tryz.prog 108 _ _ _ at hc
    refine hc.mono ?_
    rintro e w' ⟨rfl, nn, rfl⟩
    rw [← grow_nil (putRow _ _ _ _ _)]
    exact ⟨rfl, ownsRow_sorted_i (by simp) hbase hgb r1 r2 r3, grownBy_sorted_i _⟩
end Go.Proofs.YtbkhademplgicaaGreatDoor

namespace Go.Proofs.YtbkhademplgicaaGreatDoor
open Go.RowKit
set_option linter.unusedVariables false
set_option linter.unusedSimpArgs false
def IxP (w : World) (D : DS) (e : Ending) (w' : World) : Prop := ∃ v L, e = .returned v ∧ L.Perm (snIdx (D.F.map (·.1))) ∧ L.Pairwise (fun a b : Int => b ≤ a) ∧ w'.ownsRow w.heap.size 3 1 v L.length (ivs L) ∧ Kp All w w'
theorem snIdx_le (ns : List Nm) : (snIdx ns).length ≤ ns.length := by
  unfold snIdx
  exact List.length_filterMap_le _ _
set_option maxRecDepth 100000 in
set_option maxHeartbeats 1000000 in
theorem indexes_any (p : Nat) (ro : Nat → Role) (D : DS) (hoff : D.off = false) (hnm : ∀ x ∈ D.F, x.1.size ≤ 1000) (hfl : D.F.length ≤ 1000000) (w : World) (hg : Gl w) (h : Dk w p ro D) :
    Calls Tryz.prog 63 #[.pointer (some ⟨p, 0, none⟩)] w (IxP w D) := by
  have HLs := hid (list_any p ro D hoff hnm (by omega) w h)
  have HG := hid hg
  clear h hg
  go_enter Tryz.func63, Tryz.ntmps63
  go_wp2_with fail
  refine HLs.out.mono ?_
  rintro e w2 ⟨v2, ks, rfl, hp, _, ho2, hk2⟩
  obtain ⟨A2, c2, rfl⟩ := own_shape ho2
  obtain ⟨q, hq⟩ : ∃ q, ks.length = q := ⟨_, rfl⟩
  have hq1 : q ≤ 1000000 := by rw [← hq, hp.length_eq, List.length_map]; exact hfl
  have HF := hid (own_footA ho2)
  have HK2 := hid hk2; have HQ := hid hq; have HP := hid hp
  rw [hq]
  clear ho2 hk2 hq hp hnm hfl
  go_wp2_with fail
  go_loopw [3, 11] (fun v i wr => ∃ k : Nat, k ≤ q ∧ i = .int .i64 k ∧ Hid (wr.ownsRow w2.heap.size 3 1 v (snIdx (ks.take k)).length (ivs (snIdx (ks.take k)))) ∧ Hid (Kp All w2 wr)) (fun _ i _ => q - (intOf i).toNat)
  case atStart => exact ⟨0, Nat.zero_le _, rfl, hid (World.ownsRow_nil _ _ _ _), hid (Kp.refl _ _)⟩
  case round =>
    obtain ⟨k, hk, rfl, hO, hK⟩ := hrel
    obtain ⟨A5, c5, rfl⟩ := own_shape hO.out
    obtain ⟨m5, hm5⟩ : ∃ m5, (snIdx (ks.take k)).length = m5 := ⟨_, rfl⟩
    have hm6 : m5 ≤ k := by rw [← hm5]; exact Nat.le_trans (snIdx_le _) (by rw [List.length_take]; omega)
    rw [hm5] at hO ⊢
    have HM5 := hid hm5
    clear hm5
    by_cases hlt : k < q
    · have hb0 : decide ((k : Int) < (q : Int)) = true := decide_eq_true (by omega)
      obtain ⟨nm, hx⟩ : ∃ x, ks[k]? = some x := ⟨_, List.getElem?_eq_getElem (by rw [HQ.out]; exact hlt)⟩
      obtain ⟨b, o, rfl, hr⟩ := (HF.out.step hK.out).now.2.2 (by rw [HQ.out]; omega)
      have hc := hr k (.string nm) (by rw [List.getElem?_map, hx]; rfl)
      have htk : snIdx (ks.take (k + 1)) = snIdx (ks.take k) ++ (if (snIndex nm).2 then [(snIndex nm).1] else []) := by
        rw [List.take_add_one, hx]
        exact snIdx_snoc _ _
      have HT := hid htk
      have HI := hid (index_any nm _ (HG.out.all (HK2.out.trans hK.out)))
      have i0 : (0 : Int) ≤ (k : Int) := by omega
      have i1 : (k : Int) < (q : Int) := by omega
      obtain ⟨iv, hiv⟩ : ∃ iv, (snIndex nm).1 = iv := ⟨_, rfl⟩
      cases hok : (snIndex nm).2
      · rw [hok, hiv] at HI
        rw [hok] at HT
        clear hr hx htk hok hiv
        go_wp2_with fail
        refine HI.out.mono ?_
        rintro e w3 ⟨rfl, hk3⟩
        have HK3 := hid (hK.out.trans hk3); have HO3 := hid (own_kept hO.out hk3 (fun _ _ => trivial))
        clear hk3
        go_wp2_with fail
        refine ⟨⟨k + 1, by omega, by go_num, ?_, HK3⟩, by simp [intOf]; omega⟩
        have h5 := HT.out
        simp only [Bool.false_eq_true, if_false, List.append_nil] at h5
        rw [h5, HM5.out]
        exact HO3
      · rw [hok, hiv] at HI
        rw [hok, hiv] at HT
        clear hr hx htk hok hiv
        go_wp2_with fail
        refine HI.out.mono ?_
        rintro e w3 ⟨rfl, hk3⟩
        have HK3 := hid (hK.out.trans hk3); have HO3 := hid (own_kept hO.out hk3 (fun _ _ => trivial))
        clear hk3
        go_wp2_with (at_builtin; go_loud (refine wpList_app elI (HO3.out.alloc _) (sl_new1i _ _ _) (ivs_one _) ?_ (Nat.le_trans HK3.out.size (by simp)) rfl _ _ rfl rfl rfl ?_); omega; intro v' w4 hown4 hg4 hob4 hnil4; obtain ⟨A4, c4', rfl⟩ := own_shape hown4; have HOW4 := hid hown4; have HG4 := hid hg4; clear hown4 hg4 hob4 hnil4)
        refine ⟨⟨k + 1, by omega, by go_num, ?_, ?_⟩, by simp [intOf]; omega⟩
        · have h5 := HT.out
          simp only [if_true] at h5
          have h6 : (snIdx (ks.take (k + 1))).length = m5 + 1 := by rw [h5, List.length_append, HM5.out]; rfl
          rw [h6, h5]
          have h7 := HOW4.out
          simp only [ivs, List.map_append] at h7 ⊢
          exact hid h7
        · exact hid ((HK3.out.alloc _).then (Kp.grown HG4.out) (fun i hi _ e => by
            have := (HO3.out.lt i e.symm).1
            omega))
    · have hb0 : decide ((k : Int) < (q : Int)) = false := decide_eq_false (by omega)
      obtain rfl : k = q := by omega
      have e7 : ks.take k = ks := List.take_of_length_le (by rw [HQ.out]; exact Nat.le_refl _)
      rw [e7] at hO HM5
      go_wp2_with fail
      refine (sortrow_any w2.heap.size _ m5 (snIdx ks) HM5.out (by omega) _ hO.out).mono ?_
      rintro e w6 ⟨rfl, ho6, hg6⟩
      have HO6 := hid ho6
      have HK6 := hid (hK.out.then (Kp.grown hg6) (fun i hi _ e => by
        have := (hO.out.lt i e.symm).1
        omega))
      clear ho6 hg6
      go_wp2_with fail
      have hl6 : ((snIdx ks).mergeSort fun x y => decide (x ≤ y)).length = m5 := by rw [List.length_mergeSort]; exact HM5.out
      have HL6 := hid hl6
      refine (revrow_any w2.heap.size _ m5 _ hl6 (by omega) _ HO6.out).mono ?_
      rintro e w7 ⟨rfl, ho7, hg7⟩
      have HO7 := hid ho7
      have HK7 := hid (HK6.out.then (Kp.grown hg7) (fun i hi _ e => by
        have := (HO6.out.lt i e.symm).1
        omega))
      clear ho7 hg7 hl6
      go_wp2_with fail
      go_ret
      refine ⟨_, ((snIdx ks).mergeSort fun x y => decide (x ≤ y)).reverse, rfl, ?_, ?_, ?_, HK2.out.trans HK7.out⟩
      · exact (List.reverse_perm _).trans ((List.mergeSort_perm _ _).trans (HP.out.filterMap _))
      · rw [List.pairwise_reverse]
        have hpw := List.pairwise_mergeSort (le := fun x y : Int => decide (x ≤ y)) (fun a b c h1 h2 => by
          simp only [decide_eq_true_eq] at *
          omega) (fun a b => by
          simp only [Bool.or_eq_true, decide_eq_true_eq]
          omega) (snIdx ks)
        exact hpw.imp fun h => by simpa using h
      · rw [List.length_reverse, HL6.out]
        exact World.ownsRow.mono HO7.out HK2.out.size
end Go.Proofs.YtbkhademplgicaaGreatDoor

namespace Go.Proofs.YtbkhademplgicaaGreatDoor
open Go.RowKit
set_option linter.unusedVariables false
set_option linter.unusedSimpArgs false
/-- The disk's counters and files leave room for k more operations; it has at most M files. -/
structure Rm (k M : Nat) (D : DS) : Prop where
  o0 : 0 ≤ D.ops
  o1 : D.ops + k ≤ 4611686018427387904
  f1 : D.fails ≤ 9223372036854775807
  bl : D.B.length + k ≤ 1073741824
  nm : ∀ x ∈ D.F, x.1.size ≤ 1000
  fl : D.F.length ≤ M
theorem Rm.ok {k M : Nat} {D : DS} (h : Rm k M D) : D.Ok := ⟨h.o0, by have := h.o1; omega, h.f1, by have := h.bl; omega⟩
theorem Rm.mono {k j M N : Nat} {D : DS} (h : Rm k M D) (hj : j ≤ k) (hm : M ≤ N) : Rm j N D := ⟨h.o0, by have := h.o1; omega, h.f1, by have := h.bl; omega, h.nm, by have := h.fl; omega⟩
theorem Rm.of {k M N : Nat} {D E : DS} (h : Rm (k + 1) M D) (ho : E.ops = D.ops ∨ E.ops = D.ops + 1) (hf : E.fails ≤ D.fails) (hb : E.B.length ≤ D.B.length + 1) (hF : ∀ x ∈ E.F, x.1.size ≤ 1000) (hl : E.F.length ≤ N) : Rm k N E := by
  obtain ⟨h1, h2, h3, h4, h5, h6⟩ := h
  refine ⟨?_, ?_, by omega, by omega, hF, hl⟩ <;> rcases ho with e | e <;> rw [e] <;> omega
theorem key_size {F G : List (Nm × By)} (h : G.map (·.1) = F.map (·.1)) (hF : ∀ x ∈ F, x.1.size ≤ 1000) : ∀ x ∈ G, x.1.size ≤ 1000 := fun x hx => by
  have h1 : x.1 ∈ F.map (·.1) := by rw [← h]; exact List.mem_map_of_mem hx
  obtain ⟨y, hy, e⟩ := List.mem_map.1 h1
  rw [← e]; exact hF y hy
theorem begun_keys (D : DS) : D.begun.F.map (·.1) = D.F.map (·.1) := by
  unfold DS.begun
  split
  · rfl
  split
  · show (settleF _ _ _).map _ = _
    rw [settleF_keys]
  · rfl
theorem begun_ops (D : DS) : D.begun.ops = D.ops + 1 := by
  unfold DS.begun
  split
  · rfl
  split <;> rfl
theorem begun_fails (D : DS) : D.begun.fails ≤ D.fails := by
  unfold DS.begun
  split
  · exact Int.le_refl _
  split
  · next h => show (0 : Int) ≤ _; omega
  · show D.fails - 1 ≤ _; omega
theorem begun_len (D : DS) : D.begun.B.length ≤ D.B.length := by
  unfold DS.begun
  split
  · exact Nat.le_refl _
  split
  · exact Nat.zero_le _
  · exact Nat.le_refl _
theorem keys_len {F G : List (Nm × By)} (h : G.map (·.1) = F.map (·.1)) : G.length = F.length := by
  have := congrArg List.length h
  simpa using this
theorem Rm.begun {k M N : Nat} {D : DS} (h : Rm (k + 1) M D) (hm : M ≤ N) : Rm k N D.begun :=
  h.of (.inr (begun_ops D)) (begun_fails D) (Nat.le_succ_of_le (begun_len D)) (key_size (begun_keys D) h.nm) (by rw [keys_len (begun_keys D)]; have := h.fl; omega)
theorem adel_len' {β : Type} (F : List (Nm × β)) (n : Nm) : (adel F n).length ≤ F.length := List.length_filter_le _ _
theorem mem_adel' {β : Type} {F : List (Nm × β)} {n : Nm} {x : Nm × β} (h : x ∈ adel F n) : x ∈ F := (List.mem_filter.1 h).1
theorem Rm.app {k M : Nat} {D : DS} (h : Rm (k + 1) M D) (n : Nm) (b : By) : Rm k M (appD D n b) := by
  have hM := h.fl
  unfold appD
  split
  · exact h.mono (by omega) (by omega)
  split
  · exact h.mono (by omega) (by omega)
  split
  · split
    · exact h.begun (by omega)
    · have hb := begun_len D
      refine h.of (.inr (begun_ops D)) (begun_fails D) ?_ (key_size (begun_keys D) h.nm) (by show D.begun.F.length ≤ _; rw [keys_len (begun_keys D)]; omega)
      show (D.begun.B ++ [(n, b)]).length ≤ _
      rw [List.length_append]; simp; omega
  · exact h.begun (by omega)
theorem Rm.sync {k M : Nat} {D : DS} (h : Rm (k + 1) M D) : Rm k M (syncD D) := by
  have hM := h.fl
  unfold syncD
  split
  · exact h.mono (by omega) (by omega)
  split
  · have e : (settleF D.begun.F D.begun.B (pend D.B)).map (·.1) = D.F.map (·.1) := by rw [settleF_keys]; exact begun_keys D
    exact h.of (.inr (begun_ops D)) (begun_fails D) (Nat.zero_le _) (key_size e h.nm) (by show (settleF _ _ _).length ≤ _; rw [keys_len e]; omega)
  · exact h.begun (by omega)
theorem Rm.cre {k M : Nat} {D : DS} (h : Rm (k + 1) M D) {n : Nm} (hn : n.size ≤ 1000) : Rm k (M + 1) (creD D n) := by
  have hM := h.fl
  have hk := key_size (begun_keys D) h.nm
  have hl := keys_len (begun_keys D)
  have hb := begun_len D
  unfold creD
  split
  · exact h.mono (by omega) (by omega)
  split
  · split
    · unfold creD1
      split
      · refine h.of (.inr (begun_ops D)) (begun_fails D) ?_ ?_ ?_
        · show (adel D.begun.B n).length ≤ _
          have := adel_len' D.begun.B n; omega
        · intro x hx
          rcases List.mem_append.1 hx with hx | hx
          · exact hk x (mem_adel' hx)
          · rw [List.mem_singleton.1 hx]; exact hn
        · show (adel D.begun.F n ++ [(n, [])]).length ≤ _
          have := adel_len' D.begun.F n
          rw [List.length_append]; simp; omega
      · unfold createD1
        split
        · exact h.begun (by omega)
        · refine h.of (.inr (begun_ops D)) (begun_fails D) (by show D.begun.B.length ≤ _; omega) ?_ ?_
          · intro x hx
            rcases List.mem_append.1 hx with hx | hx
            · exact hk x hx
            · rw [List.mem_singleton.1 hx]; exact hn
          · show (D.begun.F ++ [(n, [])]).length ≤ _
            rw [List.length_append]; simp; omega
    · exact h.begun (by omega)
  · exact h.mono (by omega) (by omega)
theorem Rm.ren {k M : Nat} {D : DS} (h : Rm (k + 1) M D) {a b : Nm} (hn : b.size ≤ 1000) : Rm k (M + 1) (renD D a b) := by
  have hM := h.fl
  have hk := key_size (begun_keys D) h.nm
  have hl := keys_len (begun_keys D)
  have hb := begun_len D
  unfold renD
  split
  · exact h.mono (by omega) (by omega)
  split
  · split
    · exact h.mono (by omega) (by omega)
    split
    · unfold ren1D
      split
      · exact h.begun (by omega)
      · refine h.of (.inr (begun_ops D)) (begun_fails D) ?_ ?_ ?_
        · show (renB (adel D.begun.B b) a b).length ≤ _
          have := adel_len' D.begun.B b
          rw [renB, List.length_map]; omega
        · intro x hx
          rcases List.mem_append.1 hx with hx | hx
          · exact hk x (mem_adel' (mem_adel' hx))
          · rw [List.mem_singleton.1 hx]; exact hn
        · show (adel (adel D.begun.F b) a ++ _).length ≤ _
          have h1 := adel_len' (adel D.begun.F b) a; have h2 := adel_len' D.begun.F b
          rw [List.length_append]; simp; omega
    · exact h.begun (by omega)
  · exact h.mono (by omega) (by omega)
theorem Rm.rem {k M : Nat} {D : DS} (h : Rm (k + 1) M D) (n : Nm) : Rm k M (remD D n) := by
  have hM := h.fl
  have hk := key_size (begun_keys D) h.nm
  have hl := keys_len (begun_keys D)
  have hb := begun_len D
  unfold remD
  split
  · exact h.mono (by omega) (by omega)
  split
  · exact h.mono (by omega) (by omega)
  split
  · refine h.of (.inr (begun_ops D)) (begun_fails D) ?_ (fun x hx => hk x (mem_adel' hx)) ?_
    · show (adel D.begun.B n).length ≤ _
      have := adel_len' D.begun.B n; omega
    · show (adel D.begun.F n).length ≤ _
      have := adel_len' D.begun.F n; omega
  · exact h.begun (by omega)
/-! ### Save -/
def freshN : Nm := ⟨#[115, 110, 97, 112, 46, 110, 101, 119]⟩
def appsP : DS → List By → Int × DS
  | D, [] => (0, D)
  | D, b :: l => if appErr D freshN b = 0 then appsP (appD D freshN b) l else (appErr D freshN b, appD D freshN b)
def remsP (i : Int) : DS → List Int → Int × DS
  | D, [] => (0, D)
  | D, n :: l => if n < i then (if remErr D (snName n) = 9 then (9, remD D (snName n)) else remsP i (remD D (snName n)) l) else remsP i D l
/-- The numbers of the snapshots, falling. -/
def idxP (D : DS) : List Int := (snIdx (D.F.map (·.1))).mergeSort fun a b => decide (b ≤ a)
def thenP (r : Int × DS) (f : DS → Int × DS) : Int × DS := if r.1 = 0 then f r.2 else r
def saveP (D : DS) (x : Sn) : Int × DS :=
  if D.off then (9, D) else if goodSnap x = false ∨ 999999999 < x.index then (2, D) else
  thenP (creErr D freshN, creD D freshN) fun D1 => thenP (appsP D1 (chunksB x)) fun D2 => thenP (syncErr D2, syncD D2) fun D3 =>
    thenP (renErr D3 freshN (snName x.index), renD D3 freshN (snName x.index)) fun D4 => remsP x.index D4 (idxP D4)
theorem idxP_eq {D : DS} {L : List Int} (hp : L.Perm (snIdx (D.F.map (·.1)))) (hs : L.Pairwise fun a b : Int => b ≤ a) : L = idxP D := by
  have h1 : (idxP D).Perm (snIdx (D.F.map (·.1))) := List.mergeSort_perm _ _
  have h2 : (idxP D).Pairwise fun a b : Int => b ≤ a := by
    have := List.pairwise_mergeSort (le := fun a b : Int => decide (b ≤ a)) (fun a b c h1 h2 => by simp at h1 h2 ⊢; omega) (fun a b => by simp; omega) (snIdx (D.F.map (·.1)))
    exact this.imp fun h => by simpa using h
  exact List.Perm.eq_of_pairwise (fun a b _ _ h1 h2 => Int.le_antisymm h2 h1) hs h2 (hp.trans h1.symm)
theorem Rm.apps {k M : Nat} (l : List By) : ∀ {D : DS}, Rm (k + l.length) M D → Rm k M (appsP D l).2 := by
  induction l with
  | nil => intro D h; exact h
  | cons b l ih =>
    intro D h
    have h1 : Rm (k + l.length) M (appD D freshN b) := h.app freshN b
    rw [appsP]
    split
    · exact ih h1
    · exact h1.mono (by omega) (Nat.le_refl _)
theorem snName_size (n : Int) : (snName n).size ≤ 1000 := by
  by_cases h : n < 1 ∨ 999999999 < n
  · rw [snName, if_pos h]; decide
  · rw [snName_eq (by omega) (by omega)]
    have := dec_len9 n.toNat (by omega)
    show (pre5 ++ Lib.decDigits n.toNat).toArray.size ≤ _
    simp [pre5]; omega
end Go.Proofs.YtbkhademplgicaaGreatDoor

namespace Go.Proofs.YtbkhademplgicaaGreatDoor
open Go.RowKit
set_option linter.unusedVariables false
set_option linter.unusedSimpArgs false
/-- The disk in a world, and the blocks of S kept since w0. -/
structure DV (S : Nat → Prop) (w0 w : World) (p : Nat) (ro : Nat → Role) (D : DS) : Prop where
  dk : Dk w p ro D
  kp : Kp S w0 w
  rn : ∀ b, b < w0.heap.size → S b → ro b = .none
theorem DV.next {S : Nat → Prop} {w0 w w' : World} {p : Nat} {ro : Nat → Role} {D D' : DS} (h : DV S w0 w p ro D) (n : Nx w ro p D' w') : ∃ ro', DV S w0 w' p ro' D' := by
  obtain ⟨ro', h1, h2, h3⟩ := n
  exact ⟨ro', h1, h.kp.then h3 (fun i hi hs => h.rn i hi hs), fun b hb hs => h2 b (Nat.lt_of_lt_of_le hb h.kp.size) (h.rn b hb hs)⟩
theorem DV.all {S : Nat → Prop} {w0 w w' : World} {p : Nat} {ro : Nat → Role} {D : DS} (h : DV S w0 w p ro D) (k : Kp All w w') : DV S w0 w' p ro D := ⟨h.dk.all k, h.kp.then k (fun _ _ _ => trivial), h.rn⟩
theorem DV.foot {S : Nat → Prop} {w0 w : World} {p : Nat} {ro : Nat → Role} {D : DS} {P : World → Prop} (h : DV S w0 w p ro D) (hP : Foot S P w0) : Foot (fun k => ro k = .none) P w := fun u hu => hP u (h.kp.then hu fun i hi hs => h.rn i hi hs)
theorem DV.nx {w w0 w' : World} {p : Nat} {ro ro' : Nat → Role} {D' : DS} (h : DV (fun b => ro b = .none) w0 w' p ro' D') (k : Kp All w w0) : Nx w ro p D' w' :=
  ⟨ro', h.dk, fun b hb hn => h.rn b (Nat.lt_of_lt_of_le hb k.size) hn, k.all.trans h.kp⟩
theorem Dk.rnew {w : World} {p : Nat} {ro : Nat → Role} {D : DS} (h : Dk w p ro D) : ∀ z, w.heap.size ≤ z → ro z = .none := by
  obtain ⟨m, fp, bv, BV, h⟩ := h
  exact h.rnew
theorem own_footS {S : Nat → Prop} {w : World} {base e n c sz : Nat} {A : Option Addr} {xs : List Value} (h : w.ownsRow base e sz (.slice A n c) n xs) (hS : ∀ b, base ≤ b → S b) : Foot S (Sl A n c sz xs) w := fun u hu => by
  have h1 := own_kept h hu (fun b hb => hS b (h.lt b hb).1)
  exact (own_footA h1).now
theorem save1_any (b1 p : Nat) (ro : Nat → Role) (D : DS) {M : Nat} (hr : Rm 1 M D) (w : World) (h : Dk w p ro D) (hb : w.heap[b1]? = some (.cells #[.pointer (some ⟨p, 0, none⟩)] 51 (0, 0))) :
    Calls Tryz.prog 55 #[.pointer (some ⟨b1, 0, none⟩)] w (Op1 w ro p (creErr D freshN) (creD D freshN)) := by
  have c1 := blk_cell hb
  have H := hid (create_any p ro D hr.ok freshN (by decide) w h)
  clear h hb
  go_enter Tryz.func55, Tryz.ntmps55
  go_wp2_with fail
  refine H.out.mono ?_
  rintro e w1 ⟨rfl, h1⟩
  have H1 := hid h1
  clear h1
  go_wp2_with fail
  go_ret
  exact ⟨rfl, H1.out⟩
set_option maxRecDepth 100000 in
theorem save3_any (b1 b2 p : Nat) (ro : Nat → Role) (D : DS) {M : Nat} (hr : Rm 1 M D) (x : Sn) (VA LA DA : Option Addr) (vn vc ln lc dn dc : Nat) (hi : -9223372036854775808 ≤ x.index ∧ x.index ≤ 9223372036854775807) (w : World) (hg : Gl w) (h : Dk w p ro D)
    (hb : w.heap[b1]? = some (.cells #[.pointer (some ⟨p, 0, none⟩)] 51 (0, 0))) (hx : w.heap[b2]? = some (.cells #[.int .i64 x.index, .int .i64 x.term, .slice VA vn vc, .slice LA ln lc, .slice DA dn dc] 27 (0, 0))) (r1 : ro b1 = .none) (r2 : ro b2 = .none) :
    Calls Tryz.prog 60 #[.pointer (some ⟨b1, 0, none⟩), .pointer (some ⟨b2, 0, none⟩)] w (Op1 w ro p (renErr D freshN (snName x.index)) (renD D freshN (snName x.index))) := by
  have c1 := blk_cell hb
  have c2 := blk_cell hx
  have B1 := hid hb; have B2 := hid hx
  have kd : Kp All w w.drew := (Kp.refl All w).drew
  have HN := hid (name_any x.index hi.1 hi.2 w.drew (hg.all kd))
  have KD := hid kd
  have H := hid h
  obtain ⟨ev, hev⟩ : ∃ ev, renErr D freshN (snName x.index) = ev := ⟨_, rfl⟩
  obtain ⟨D', hD⟩ : ∃ D', renD D freshN (snName x.index) = D' := ⟨_, rfl⟩
  have HR := hid (fun w' (hk : Kp All w w') => rename_any p ro D hr.ok freshN (snName x.index) (by have := snName_size x.index; omega) w' (h.all hk))
  rw [hev, hD] at HR ⊢
  clear h hb hx hev hD hg kd
  go_enter Tryz.func60, Tryz.ntmps60
  go_wp2_with fail
  go_region_held3 (fun w' => (∀ i, w'.cell? ⟨b1, i, none⟩ = (#[.pointer (some ⟨p, 0, none⟩)] : Array Value)[i]?) ∧ (∀ i, w'.cell? ⟨b2, i, none⟩ = (#[.int .i64 x.index, .int .i64 x.term, .slice VA vn vc, .slice LA ln lc, .slice DA dn dc] : Array Value)[i]?)) (first | exact ⟨blk_cell B19.out, blk_cell B29.out⟩ | exact ⟨blk_cell B18.out, blk_cell B28.out⟩ | exact ⟨c1, c2⟩) (first | (go_at_call 61; have hk := HK8.out; clear hk; refine (HR.out _ HK8.out).mono ?_; rintro e w9 ⟨rfl, hnx9⟩; have B19 := hid (show w9.heap[b1]? = _ by obtain ⟨_, _, _, k⟩ := hnx9; exact k.heap B18.out r1); have B29 := hid (show w9.heap[b2]? = _ by obtain ⟨_, _, _, k⟩ := hnx9; exact k.heap B28.out r2); have HNX := hid (Nx.pre HK8.out hnx9); clear hnx9) | (go_at_call 17; refine HN.out.mono ?_; rintro e w8 ⟨rfl, hk8⟩; have HK8 := hid (KD.out.trans hk8); have B18 := hid (HK8.out.heap B1.out trivial); have B28 := hid (HK8.out.heap B2.out trivial); clear hk8))
  go_wp2_with fail
  go_ret
  exact ⟨rfl, HNX.out⟩
end Go.Proofs.YtbkhademplgicaaGreatDoor

namespace Go.Proofs.YtbkhademplgicaaGreatDoor
open Go.RowKit
set_option linter.unusedVariables false
set_option linter.unusedSimpArgs false
theorem Kp.at {S : Nat → Prop} {w w' : World} (k : Kp S w w') {b : Nat} {o : Obj} (h : w.heap[b]? = some o) (hs : S b) : w'.heap[b]? = some o := k.heap h hs
theorem rowsAt_S {S : Nat → Prop} {base : Nat} {hs : List Hd} {ls : List By} {w : World} (h : FrB base hs ls w) (hS : ∀ b, base ≤ b → S b) (i : Nat) (y : Hd) (l : By) (hy : hs[i]? = some y) (hl : ls[i]? = some l) : l.length = y.2.1 ∧ Foot S (Sl y.1 y.2.1 y.2.2 1 (u8s l)) w := by
  obtain ⟨A, n, c⟩ := y
  have h1 := h.2 i _ l hy hl
  obtain ⟨A', c', e⟩ := own_shape h1
  injection e with e1 e2 e3
  subst e1 e2 e3
  exact ⟨rfl, own_footS h1 hS⟩
theorem drop_cons {β : Type} {l : List β} {k : Nat} {b : β} (h : l[k]? = some b) : l.drop k = b :: l.drop (k + 1) := by
  obtain ⟨hk, e⟩ := List.getElem?_eq_some_iff.1 h
  rw [List.drop_eq_getElem_cons hk, e]
theorem flat_mem_le {ls : List By} {l : By} (h : l ∈ ls) : l.length ≤ ls.flatten.length := by
  induction ls with
  | nil => cases h
  | cons a r ih =>
    rw [List.flatten_cons, List.length_append]
    rcases List.mem_cons.1 h with rfl | h
    · omega
    · have := ih h; omega
set_option maxRecDepth 100000 in
set_option maxHeartbeats 1000000 in
theorem save2_any (b1 b2 p : Nat) (ro : Nat → Role) (D : DS) {M : Nat} (hr : Rm 1001 M D) (x : Sn) (VA LA DA : Option Addr) (vn vc ln lc dn dc : Nat) (hgo : goodSnap x = true) (w : World) (h : Dk w p ro D)
    (hb : w.heap[b1]? = some (.cells #[.pointer (some ⟨p, 0, none⟩)] 51 (0, 0))) (hx : w.heap[b2]? = some (.cells #[.int .i64 x.index, .int .i64 x.term, .slice VA vn vc, .slice LA ln lc, .slice DA dn dc] 27 (0, 0))) (r1 : ro b1 = .none) (hs : Snp x VA LA DA vn vc ln lc dn dc w) :
    Calls Tryz.prog 57 #[.pointer (some ⟨b2, 0, none⟩), .pointer (some ⟨b1, 0, none⟩)] w (Op1 w ro p (appsP D (chunksB x)).1 (appsP D (chunksB x)).2) := by
  have c2 := blk_cell hx
  have B1 := hid hb
  have hlen : 9 * (vn + ln) + dn ≤ 1500000 := by
    obtain ⟨h1, h2, h3⟩ := goodSnap_lens hgo
    have h4 := hs.cf.vn; have h5 := hs.cf.ln; have h6 := hs.dn
    omega
  have HC := hid (chunks_any x VA LA DA vn vc ln lc dn dc hlen w hs)
  have H := hid h; have HR := hid hr; have HG := hid hgo
  obtain ⟨hq1, hq2⟩ := chunks_small hgo
  obtain ⟨ls, hls⟩ : ∃ ls, chunksB x = ls := ⟨_, rfl⟩
  have HLS := hid hls
  have HQ1 := hid hq1; have HQ2 := hid hq2
  rw [hls] at HQ1 HQ2 ⊢
  clear h hb hx hr hgo hlen hq1 hq2 hls hs
  go_enter Tryz.func57, Tryz.ntmps57
  go_wp2_with fail
  refine HC.out.mono ?_
  intro e w3 hch
  rw [ChP, if_pos HG.out, HLS.out] at hch
  obtain ⟨v8, hs, rfl, ho8, hf8, hk8⟩ := hch
  obtain ⟨A8, c8, rfl⟩ := own_shape ho8
  obtain ⟨q, hq⟩ : ∃ q, hs.length = q := ⟨_, rfl⟩
  have hql : ls.length = q := by rw [← hq]; exact hf8.1.symm
  have hq1000 : q ≤ 1000 := by rw [← hql]; exact HQ1.out
  have hrw := H.out.rnew
  have HF := hid (own_footS (S := fun b => ro b = .none) ho8 hrw)
  have HFS := hid (rowsAt_S (S := fun b => ro b = .none) hf8 hrw)
  have HK8 := hid hk8; have HQL := hid hql; have HQ := hid hq
  have HB1 := hid (hk8.heap B1.out trivial)
  have hdv : DV (fun b => ro b = .none) w3 w3 p ro D := ⟨H.out.all hk8, Kp.refl _ _, fun _ _ h => h⟩
  have HDV := hid hdv
  have HRW := hid hrw
  rw [hq] at HF ⊢
  clear ho8 hf8 hk8 hq hql hrw hdv
  go_wp2_with fail
  go_loopw [9] (fun i wr => ∃ k : Nat, k ≤ q ∧ i = .int .i64 k ∧ ∃ ro' D', Hid (DV (fun b => ro b = .none) w3 wr p ro' D') ∧ Hid (Rm (q - k + 1) M D') ∧ Hid (appsP D ls = appsP D' (ls.drop k))) (fun i _ => q - (intOf i).toNat)
  case atStart => exact ⟨0, Nat.zero_le _, rfl, ro, D, HDV, hid (HR.out.mono (by omega) (Nat.le_refl _)), hid rfl⟩
  case round =>
    obtain ⟨k, hk, rfl, ro', D', hD, hM, hA⟩ := hrel
    by_cases hlt : k < q
    · have hb0 : decide ((k : Int) < (q : Int)) = true := decide_eq_true (by omega)
      obtain ⟨⟨x1, x2, x3⟩, hx⟩ : ∃ x, hs[k]? = some x := ⟨_, List.getElem?_eq_getElem (by rw [HQ.out]; exact hlt)⟩
      obtain ⟨l, hy⟩ : ∃ l, ls[k]? = some l := ⟨_, List.getElem?_eq_getElem (by rw [HQL.out]; exact hlt)⟩
      obtain ⟨hl1, hl2⟩ := HFS.out k _ l hx hy
      dsimp only at hl1 hl2
      subst hl1
      obtain ⟨b, o, rfl, hrd⟩ := (HF.out _ hD.out.kp).2.2 (by omega)
      have hc := hrd k _ (by rw [List.getElem?_map, hx]; rfl)
      rw [hdV] at hc
      dsimp only at hc
      have hbb := hD.out.kp.heap HB1.out r1
      have cb := blk_cell hbb
      have hll : l.length ≤ 549755813888 := by
        have h1 := flat_mem_le (List.mem_of_getElem? hy); have h2 := HQ2.out; omega
      have HAP := hid (append_any p ro' D' hM.out.ok freshN l x1 x3 wr hD.out.dk (hD.out.foot hl2) hll)
      obtain ⟨ev, hev⟩ : ∃ ev, appErr D' freshN l = ev := ⟨_, rfl⟩
      have HE := hid hev
      have HDR := hid (drop_cons hy)
      rw [hev] at HAP
      have i0 : (0 : Int) ≤ (k : Int) := by omega
      have i1 : (k : Int) < (q : Int) := by omega
      clear hx hy hl2 hrd hbb hll hev
      by_cases he : ev = 0
      · have d1 : (ev != 0) = false := by simp [he]
        subst he
        go_wp2_with fail
        refine HAP.out.mono ?_
        rintro e w5 ⟨rfl, hnx⟩
        obtain ⟨ro5, hd5⟩ := hD.out.next hnx
        have HD5 := hid hd5
        clear hnx hd5
        go_wp2_with fail
        refine ⟨⟨k + 1, by omega, by go_num, ro5, _, HD5, ?_, ?_⟩, by simp [intOf]; omega⟩
        · have h1 : Rm (q - (k + 1) + 1 + 1) M D' := hM.out.mono (by omega) (Nat.le_refl _)
          exact hid (h1.app freshN l)
        · refine hid (hA.out.trans ?_)
          rw [HDR.out, appsP, if_pos HE.out]
      · have d1 : (ev != 0) = true := by simpa using he
        go_wp2_with fail
        refine HAP.out.mono ?_
        rintro e w5 ⟨rfl, hnx⟩
        obtain ⟨ro5, hd5⟩ := hD.out.next hnx
        have HD5 := hid hd5
        clear hnx hd5
        go_wp2_with fail
        go_ret
        have h6 : appsP D ls = (ev, appD D' freshN l) := by
          rw [hA.out, HDR.out, appsP, if_neg (by rw [HE.out]; exact he), HE.out]
        refine ⟨?_, ?_⟩
        · rw [h6]; rfl
        · rw [h6]
          exact HD5.out.nx HK8.out
    · have hb0 : decide ((k : Int) < (q : Int)) = false := decide_eq_false (by omega)
      obtain rfl : k = q := by omega
      have h6 : appsP D ls = (0, D') := by
        rw [hA.out, List.drop_of_length_le (by rw [HQL.out]; exact Nat.le_refl _)]; rfl
      have H6 := hid h6
      clear h6
      go_wp2_with fail
      go_ret
      refine ⟨?_, ?_⟩
      · rw [H6.out]; rfl
      · rw [H6.out]
        exact hD.out.nx HK8.out
end Go.Proofs.YtbkhademplgicaaGreatDoor

namespace Go.Proofs.YtbkhademplgicaaGreatDoor
open Go.RowKit
set_option linter.unusedVariables false
set_option linter.unusedSimpArgs false
theorem snIdx_mem {ns : List Nm} {n : Int} (h : n ∈ snIdx ns) : 1 ≤ n ∧ n ≤ 999999999 ∧ snName n ∈ ns := by
  unfold snIdx at h
  obtain ⟨s, hs, e⟩ := List.mem_filterMap.1 h
  split at e
  · next hb =>
    injection e with e
    have h1 : snIndex s = (n, true) := by rw [← e, ← hb]
    obtain ⟨h2, h3, h4⟩ := snIndex_true h1
    exact ⟨h3, h4, by rw [h2]; exact hs⟩
  · cases e
theorem idxP_mem {D : DS} {n : Int} (h : n ∈ idxP D) : 1 ≤ n ∧ n ≤ 999999999 ∧ snName n ∈ D.F.map (·.1) := snIdx_mem ((List.mergeSort_perm _ _).mem_iff.1 h)
theorem idxP_len (D : DS) : (idxP D).length ≤ D.F.length := by
  rw [idxP, List.length_mergeSort]
  have := snIdx_le (D.F.map (·.1))
  rwa [List.length_map] at this
set_option maxRecDepth 100000 in
set_option maxHeartbeats 1000000 in
theorem save4_any (b1 b2 p : Nat) (ro : Nat → Role) (D : DS) (hoff : D.off = false) {M : Nat} (hM6 : M ≤ 1000000) (hr : Rm (M + 1) M D) (x : Sn) (VA LA DA : Option Addr) (vn vc ln lc dn dc : Nat) (w : World) (hg : Gl w) (g1 : ro 0 = .none) (g2 : ro 2 = .none) (h : Dk w p ro D)
    (hb : w.heap[b1]? = some (.cells #[.pointer (some ⟨p, 0, none⟩)] 51 (0, 0))) (hx : w.heap[b2]? = some (.cells #[.int .i64 x.index, .int .i64 x.term, .slice VA vn vc, .slice LA ln lc, .slice DA dn dc] 27 (0, 0))) (r1 : ro b1 = .none) (r2 : ro b2 = .none) :
    Calls Tryz.prog 62 #[.pointer (some ⟨b1, 0, none⟩), .pointer (some ⟨b2, 0, none⟩)] w (Op1 w ro p (remsP x.index D (idxP D)).1 (remsP x.index D (idxP D)).2) := by
  have c1 := blk_cell hb
  have B1 := hid hb; have B2 := hid hx; have HGL := hid hg
  have hfl := hr.fl
  have HI := hid (indexes_any p ro D hoff hr.nm (by omega) w hg h)
  have H := hid h; have HR := hid hr
  obtain ⟨L, hL⟩ : ∃ L, idxP D = L := ⟨_, rfl⟩
  have HL := hid hL
  have HLE := hid (idxP_len D)
  rw [hL] at HLE ⊢
  clear h hb hx hr hg hfl hL
  go_enter Tryz.func62, Tryz.ntmps62
  go_wp2_with fail
  refine HI.out.mono ?_
  rintro e w3 ⟨v8, L', rfl, hp, hsd, ho8, hk8⟩
  obtain rfl : L' = L := (idxP_eq hp hsd).trans HL.out
  clear hp hsd
  obtain ⟨A8, c8, rfl⟩ := own_shape ho8
  obtain ⟨q, hq⟩ : ∃ q, L'.length = q := ⟨_, rfl⟩
  have hrw := H.out.rnew
  have HF := hid (own_footS (S := fun b => ro b = .none) ho8 hrw)
  have HK8 := hid hk8; have HQ := hid hq
  have HB1 := hid (hk8.heap B1.out trivial)
  have HB2 := hid (hk8.heap B2.out trivial)
  have HG3 := hid (HGL.out.all hk8)
  have hdv : DV (fun b => ro b = .none) w3 w3 p ro D := ⟨H.out.all hk8, Kp.refl _ _, fun _ _ h => h⟩
  have HDV := hid hdv
  have hqf : q ≤ D.F.length := by rw [← hq]; exact HLE.out
  have hqm : D.F.length ≤ 1000000 := by have := HR.out.fl; omega
  have HM0 := hid (HR.out.mono (show q + 1 ≤ M + 1 by have := HR.out.fl; omega) (Nat.le_refl M))
  have hq6 : q ≤ 1000000 := by omega
  rw [hq] at HF ⊢
  clear ho8 hk8 hq hrw hdv hqf hqm
  go_wp2_with fail
  go_loopw [8] (fun i wr => ∃ k : Nat, k ≤ q ∧ i = .int .i64 k ∧ ∃ ro' D', Hid (DV (fun b => ro b = .none) w3 wr p ro' D') ∧ Hid (Rm (q - k + 1) M D') ∧ Hid (remsP x.index D L' = remsP x.index D' (L'.drop k))) (fun i _ => q - (intOf i).toNat)
  case atStart => exact ⟨0, Nat.zero_le _, rfl, ro, D, HDV, HM0, hid rfl⟩
  case round =>
    obtain ⟨k, hk, rfl, ro', D', hD, hM, hA⟩ := hrel
    by_cases hlt : k < q
    · have hb0 : decide ((k : Int) < (q : Int)) = true := decide_eq_true (by omega)
      obtain ⟨n, hy⟩ : ∃ n, L'[k]? = some n := ⟨_, List.getElem?_eq_getElem (by rw [HQ.out]; exact hlt)⟩
      obtain ⟨b, o, rfl, hrd⟩ := (HF.out _ hD.out.kp).2.2 (by omega)
      have hc := hrd k (.int .i64 n) (by rw [ivs, List.getElem?_map, hy]; rfl)
      have hn := idxP_mem (D := D) (n := n) (by rw [HL.out]; exact List.mem_of_getElem? hy)
      have hn1 : 1 ≤ n := hn.1
      have hn2 : n ≤ 999999999 := hn.2.1
      have hb1 := hD.out.kp.heap HB1.out r1
      have hb2 := hD.out.kp.heap HB2.out r2
      have cb1 := blk_cell hb1
      have cb2 := blk_cell hb2
      have HBR1 := hid hb1; have HBR2 := hid hb2
      have HGR := hid (HG3.out.kept hD.out.kp g1 g2)
      have HDR := hid (drop_cons hy)
      have kd : Kp All wr wr.drew := (Kp.refl All wr).drew
      have KD := hid kd
      have i0 : (0 : Int) ≤ (k : Int) := by omega
      have i1 : (k : Int) < (q : Int) := by omega
      clear hy hrd hn hb1 hb2 kd
      by_cases hni : n < x.index
      · have d1 : decide (n < x.index) = true := decide_eq_true hni
        obtain ⟨ev, hev⟩ : ∃ ev, remErr D' (snName n) = ev := ⟨_, rfl⟩
        obtain ⟨E, hE⟩ : ∃ E, remD D' (snName n) = E := ⟨_, rfl⟩
        have HRM := hid (fun w' (hk : Kp All wr w') => remove_any p ro' D' hM.out.ok (snName n) w' (hD.out.dk.all hk))
        have HN := hid (name_any n (by omega) (by omega) wr.drew (HGR.out.all KD.out))
        have HEV := hid hev; have HE := hid hE
        have HME := hid (show Rm (q - (k + 1) + 1) M E by
          rw [← hE]
          have h1 : Rm (q - (k + 1) + 1 + 1) M D' := hM.out.mono (by omega) (Nat.le_refl _)
          exact h1.rem _)
        have HRB1 := hid (hD.out.rn b1 (Array.getElem?_eq_some_iff.1 HB1.out).1 r1)
        have HRB2 := hid (hD.out.rn b2 (Array.getElem?_eq_some_iff.1 HB2.out).1 r2)
        rw [hev, hE] at HRM
        clear hev hE
        by_cases h9 : ev = 9
        · have d9 : (ev == 9) = true := by simp [h9]
          subst h9
          go_wp2_with fail
          go_region_held3 (fun w' => (∀ i, w'.cell? ⟨b1, i, none⟩ = (#[.pointer (some ⟨p, 0, none⟩)] : Array Value)[i]?) ∧ (∀ i, w'.cell? ⟨b2, i, none⟩ = (#[.int .i64 x.index, .int .i64 x.term, .slice VA vn vc, .slice LA ln lc, .slice DA dn dc] : Array Value)[i]?)) (first | exact ⟨blk_cell B19.out, blk_cell B29.out⟩ | exact ⟨blk_cell B18.out, blk_cell B28.out⟩ | exact ⟨cb1, cb2⟩) (first | (go_at_call 64; have hk := HK9.out; clear hk; refine (HRM.out _ HK9.out).mono ?_; rintro e w9 ⟨rfl, hnx9⟩; have B19 := hid (show w9.heap[b1]? = _ by obtain ⟨_, _, _, k⟩ := hnx9; exact k.heap B18.out HRB1.out); have B29 := hid (show w9.heap[b2]? = _ by obtain ⟨_, _, _, k⟩ := hnx9; exact k.heap B28.out HRB2.out); have HNX := hid (Nx.pre HK9.out hnx9); clear hnx9) | (go_at_call 17; refine HN.out.mono ?_; rintro e w8 ⟨rfl, hk8⟩; have HK9 := hid (KD.out.trans hk8); have B18 := hid (HK9.out.heap HBR1.out trivial); have B28 := hid (HK9.out.heap HBR2.out trivial); clear hk8))
          go_wp2_with fail
          go_ret
          have h6 : remsP x.index D L' = (9, E) := by
            rw [hA.out, HDR.out, remsP, if_pos hni, if_pos HEV.out, HE.out]
          obtain ⟨ro5, hd5⟩ := hD.out.next HNX.out
          refine ⟨?_, ?_⟩
          · rw [h6]; rfl
          · rw [h6]
            exact hd5.nx HK8.out
        · have d9 : (ev == 9) = false := by simpa using h9
          go_wp2_with fail
          go_region_held3 (fun w' => (∀ i, w'.cell? ⟨b1, i, none⟩ = (#[.pointer (some ⟨p, 0, none⟩)] : Array Value)[i]?) ∧ (∀ i, w'.cell? ⟨b2, i, none⟩ = (#[.int .i64 x.index, .int .i64 x.term, .slice VA vn vc, .slice LA ln lc, .slice DA dn dc] : Array Value)[i]?)) (first | exact ⟨blk_cell B19.out, blk_cell B29.out⟩ | exact ⟨blk_cell B18.out, blk_cell B28.out⟩ | exact ⟨cb1, cb2⟩) (first | (go_at_call 64; have hk := HK9.out; clear hk; refine (HRM.out _ HK9.out).mono ?_; rintro e w9 ⟨rfl, hnx9⟩; have B19 := hid (show w9.heap[b1]? = _ by obtain ⟨_, _, _, k⟩ := hnx9; exact k.heap B18.out HRB1.out); have B29 := hid (show w9.heap[b2]? = _ by obtain ⟨_, _, _, k⟩ := hnx9; exact k.heap B28.out HRB2.out); have HNX := hid (Nx.pre HK9.out hnx9); clear hnx9) | (go_at_call 17; refine HN.out.mono ?_; rintro e w8 ⟨rfl, hk8⟩; have HK9 := hid (KD.out.trans hk8); have B18 := hid (HK9.out.heap HBR1.out trivial); have B28 := hid (HK9.out.heap HBR2.out trivial); clear hk8))
          go_wp2_with fail
          obtain ⟨ro5, hd5⟩ := hD.out.next HNX.out
          refine ⟨⟨k + 1, by omega, by go_num, ro5, E, hid hd5, HME, ?_⟩, by simp [intOf]; omega⟩
          refine hid (hA.out.trans ?_)
          rw [HDR.out, remsP, if_pos hni, if_neg (by rw [HEV.out]; exact h9), HE.out]
      · have d1 : decide (n < x.index) = false := decide_eq_false hni
        go_wp2_with fail
        go_quiet (fail)
        go_wp2_with fail
        refine ⟨⟨k + 1, by omega, by go_num, ro', D', hid (hD.out.all ((Kp.refl All wr).drewN _)), hid (hM.out.mono (by omega) (Nat.le_refl _)), ?_⟩, by simp [intOf]; omega⟩
        refine hid (hA.out.trans ?_)
        rw [HDR.out, remsP, if_neg (by omega)]
    · have hb0 : decide ((k : Int) < (q : Int)) = false := decide_eq_false (by omega)
      obtain rfl : k = q := by omega
      have h6 : remsP x.index D L' = (0, D') := by
        rw [hA.out, List.drop_of_length_le (by rw [HQ.out]; exact Nat.le_refl _)]; rfl
      have H6 := hid h6
      clear h6
      go_wp2_with fail
      go_ret
      refine ⟨?_, ?_⟩
      · rw [H6.out]; rfl
      · rw [H6.out]
        exact hD.out.nx HK8.out
end Go.Proofs.YtbkhademplgicaaGreatDoor
