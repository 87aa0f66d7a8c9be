/- The document's map: Keys walked. No condition but that the map lies. A pair put at its place among pairs by keys: plain words, with no program in sight. No condition. The document's Pairs walked. No condition but that the map lies and is sound. The document's Cut and Bytes of pairs walked. No condition but that the rows lie, and are not great. The document's Bytes of pairs walked. No condition but that the row lies, and the texts are not too long. -/
import Derived.Test.YtodledidabdkaaaGreatDoorM17
import Derived.Test.YtodledidabdkaaaGreatDoorM7
import Derived.Test.YtodledidabdkaaaGreatDoorM12
import Derived.Test.YtodledidabdkaaaGreatDoorXJ
import Derived.Test.YtodledidabdkaaaGreatDoorM18
import Derived.Test.YtodledidabdkaaaGreatDoorM8
set_option linter.unusedVariables false
set_option linter.unusedSimpArgs false
namespace Go.Proofs.YtodledidabdkaaaGreatDoor
open Go.RowKit Go.Shelf V
set_option linter.unusedVariables false
set_option linter.unusedSimpArgs false
def preK (M : Mp) (j : Nat) : List Tx := (preF M j).map (·.1)
set_option maxRecDepth 100000 in
set_option maxHeartbeats 1000000 in
theorem r5keys_any (k0 k1 bm bw cw bs cs : Nat) (M : Mp) (hP : Pm M) (w : World) (h : Qs k0 k1 bm bw cw bs cs M w) : Calls Tryz.prog 44 #[.pointer (some ⟨bm, 0, none⟩)] w (KeysR (keysP M) w) := by
  have HM := hid h; have HP := hid hP
  have c0 := blk_cell h.str
  have hg1 := hP.g1
  have g1 := hg1.1; have g2 := hg1.2
  have HCL := hid hP.len
  clear h hg1
  go_enter Tryz.func44, Tryz.ntmps44
  go_wp2_with fail
  go_loopw [3, 10] (fun x i wr => ∃ j : Nat, j ≤ 8 * M.g ∧ i = .int .i64 j ∧ Hid (wr.ownsRow w.heap.size 9 1 x (preK M j).length (strs (preK M j))) ∧ Hid (Kp All w wr)) (fun _ i _ => 8 * M.g - (ivl i).toNat)
  case atStart => exact ⟨0, Nat.zero_le _, rfl, hid (World.ownsRow_nil _ _ _ _), Kp.refl _ _⟩
  case round =>
    obtain ⟨j, hj, rfl, hown, hkp⟩ := hrel
    obtain ⟨A3, c3, rfl⟩ := own_shape hown.out
    have hMw := HM.out.all hkp.out
    by_cases hlt : j < 8 * M.g
    · have d9 : decide ((j : Int) < 8 * (M.g : Int)) = true := decide_eq_true (by omega)
      have cmw := blk_cell hMw.str
      obtain ⟨r1, r2⟩ := hMw.slot HP.out.slen hlt
      obtain ⟨s, hs⟩ : ∃ s, M.slots[j]? = some s := ⟨_, List.getElem?_eq_getElem (by rw [HP.out.slen]; exact hlt)⟩
      rw [getD_of hs] at r1
      obtain ⟨bb, hbb⟩ : ∃ bb, M.ctrl[j]? = some bb := ⟨_, List.getElem?_eq_getElem (by rw [HCL.out]; exact hlt)⟩
      obtain ⟨q, hq⟩ : ∃ q, q = j / 8 := ⟨_, rfl⟩
      have hqg : q < M.g := by omega
      have hwd := hMw.word (by have := HCL.out; omega) hqg
      have HG3 := hid (fun w => r3get_any (grp M.ctrl q) (HP.out.gb q) (HP.out.g8 hqg) j (by omega) w)
      have hgd : (grp M.ctrl q).getD (j % 8) 0 = bb := getD_of (by rw [grp_get (by omega), show 8 * q + j % 8 = j from by omega]; exact hbb)
      rw [hgd] at HG3
      have hquo : Int.tdiv (j : Int) 8 = (q : Int) := by rw [hq]; rfl
      generalize wd (grp M.ctrl q) = wq at *
      have hbl := blk_lt hMw.str
      have q0 : (0 : Int) ≤ (j : Int) := by omega
      have q1 : (j : Int) < 8 * (M.g : Int) := by omega
      have p0 : (0 : Int) ≤ (q : Int) := by omega
      have p1 : (q : Int) < (M.g : Int) := by omega
      have hjl : j < M.ctrl.length := by rw [HCL.out]; exact hlt
      have hpl : (preF M j).length ≤ 8192 := by
        have := preF_le M (Nat.le_of_lt hjl)
        have h2 : (fullP M).length ≤ M.ctrl.length := by unfold fullP; exact Nat.le_trans (List.length_filterMap_le _ _) (by simp)
        have := HCL.out
        omega
      have hjw : IntKind.i64.wrap ((j : Int) + 1) = (j : Int) + 1 := IntWalk.i64_in _ (by omega)
      obtain ⟨s1, s2⟩ := s
      simp only at r1
      clear hq hgd hMw r2
      by_cases hb2 : bb < 128
      · have db : decide ((bb : Int) < 128) = true := decide_eq_true (by omega)
        have hpk : preK M (j + 1) = preK M j ++ [s1] := by
          unfold preK
          rw [preF_succ, getD_of hbb, if_pos hb2, hs]
          simp
        have HPK := hid hpk
        have hkl : (preK M j).length ≤ 8192 := by unfold preK; rw [List.length_map]; exact hpl
        have hsz := hkp.out.size
        clear hpk hbb hs hpl
        obtain ⟨pk, hpk⟩ : ∃ pk, preK M j = pk := ⟨_, rfl⟩
        rw [hpk] at HPK hkl hown ⊢
        clear hpk
        obtain ⟨pl, hpl⟩ : ∃ pl, pk.length = pl := ⟨_, rfl⟩
        have HPL := hid hpl
        rw [hpl] at hkl hown ⊢
        clear hpl
        go_wp2_with fail
        refine (HG3.out _).mono ?_
        rintro e w4 ⟨rfl, hw⟩
        have hw := hw.symm
        subst hw
        go_wp2_with (at_builtin; go_loud (refine wpList_app elS (World.ownsRow.alloc hown.out _) (sl_one rfl (.string s1) 9) (by intro u hu; rw [List.mem_singleton] at hu; subst hu; rfl) ?_ ?_ rfl _ _ rfl rfl rfl ?_); omega; (simp only [World.size_alloc]; omega); intro v' w7 hown7 hg7 hob7 hnil7; obtain ⟨A7, c7, rfl⟩ := own_shape hown7; have HOW7 := hid hown7; have HK7 := hid (show Kp All w w7 from (hkp.out.alloc _).then (Kp.grown hg7) (fun i hi _ e => by have := (hown.out.lt i e.symm).1; omega)); clear hown7 hg7 hob7 hnil7)
        refine ⟨⟨j + 1, by omega, by go_num, hid ?_, HK7⟩, by simp [ivl]; omega⟩
        rw [HPK.out, List.length_append, HPL.out, show strs (pk ++ [s1]) = strs pk ++ [.string s1] from by simp [strs]]
        exact HOW7.out
      · have db : decide ((bb : Int) < 128) = false := decide_eq_false (by omega)
        have hpk : preK M (j + 1) = preK M j := by
          unfold preK
          rw [preF_succ, getD_of hbb, if_neg hb2]
          simp
        have HPK := hid hpk
        clear hpk hbb hs hpl
        go_wp2_with fail
        refine (HG3.out _).mono ?_
        rintro e w4 ⟨rfl, hw⟩
        have hw := hw.symm
        subst hw
        go_wp2_with fail
        exact ⟨⟨j + 1, by omega, by go_num, hid (by rw [HPK.out]; exact hown.out), hkp⟩, by simp [ivl]; omega⟩
    · have d9 : decide ((j : Int) < 8 * (M.g : Int)) = false := decide_eq_false (by omega)
      have hjn : j = M.ctrl.length := by rw [HCL.out]; omega
      have ho := hown.out
      rw [hjn, show preK M M.ctrl.length = keysP M from rfl] at ho
      have HO := hid ho
      have hll : (preK M j).length = (keysP M).length := by rw [hjn]; rfl
      rw [hll]
      clear hjn ho hMw hll
      go_wp2_with fail
      go_ret
      exact ⟨_, rfl, HO.out, hkp.out⟩
end Go.Proofs.YtodledidabdkaaaGreatDoor

namespace Go.Proofs.YtodledidabdkaaaGreatDoor.V
set_option linter.unusedVariables false
set_option linter.unusedSimpArgs false
/-- l with a place for one pair ahead of its i-th -/
def gapP (l : List Slot) (i : Nat) (h : Slot) : List Slot := l.take i ++ h :: l.drop i
theorem gap_len (l : List Slot) (i : Nat) (h : Slot) : (gapP l i h).length = l.length + 1 := by
  unfold gapP
  rw [List.length_append, List.length_cons, List.length_take, List.length_drop]; omega
theorem gap_end (l : List Slot) (h : Slot) : gapP l l.length h = l ++ [h] := by
  unfold gapP
  rw [List.take_length, List.drop_length]
theorem gap_lt {l : List Slot} {i j : Nat} {h : Slot} (hj : j < i) (hi : i ≤ l.length) : (gapP l i h)[j]? = l[j]? := by
  unfold gapP
  rw [List.getElem?_append_left (by rw [List.length_take]; omega), List.getElem?_take, if_pos hj]
theorem gap_set {l : List Slot} {i : Nat} {h x : Slot} (hi : i ≤ l.length) : (gapP l i h).set i x = gapP l i x := by
  unfold gapP
  rw [List.set_append_right _ _ (by rw [List.length_take]; omega), List.length_take, show i - min i l.length = 0 from by omega]
  rfl
theorem gap_step {l : List Slot} {i : Nat} {y : Slot} (hi : i < l.length) (hy : l[i]? = some y) : gapP l (i + 1) y = gapP l i y := by
  unfold gapP
  obtain ⟨h1, h2⟩ := List.getElem?_eq_some_iff.1 hy
  rw [List.take_add_one, hy, List.drop_eq_getElem_cons h1, h2]
  simp
theorem gap_srt {l : List Slot} {i : Nat} {x : Slot} (hs : Srt l) (h1 : ∀ y ∈ l.take i, bl y.1 < bl x.1) (h2 : ∀ y ∈ l.drop i, bl x.1 < bl y.1) : Srt (gapP l i x) := by
  unfold gapP Srt
  have hs' : Srt (l.take i ++ l.drop i) := by rw [List.take_append_drop]; exact hs
  obtain ⟨a1, a2, a3⟩ := List.pairwise_append.1 hs'
  refine List.pairwise_append.2 ⟨a1, List.pairwise_cons.2 ⟨h2, a2⟩, fun y hy z hz => ?_⟩
  rcases List.mem_cons.1 hz with rfl | hz
  · exact h1 y hy
  · exact a3 y hy z hz
theorem gap_mem {l : List Slot} {i : Nat} {x y : Slot} : y ∈ gapP l i x ↔ y = x ∨ y ∈ l := by
  unfold gapP
  rw [List.mem_append, List.mem_cons]
  constructor
  · rintro (h | h | h)
    · exact .inr (List.mem_of_mem_take h)
    · exact .inl h
    · exact .inr (List.mem_of_mem_drop h)
  · rintro (h | h)
    · exact .inr (.inl h)
    · rw [← List.take_append_drop i l] at h
      rcases List.mem_append.1 h with h | h
      · exact .inl h
      · exact .inr (.inr h)
/-- ahead of a pair with a key below, all keys are below -/
theorem srt_take {l : List Slot} {i : Nat} {x y : Slot} (hs : Srt l) (hy : l[i]? = some y) (h : bl y.1 < bl x.1) : ∀ z ∈ l.take (i + 1), bl z.1 < bl x.1 := by
  intro z hz
  obtain ⟨j, hj⟩ := List.mem_iff_getElem?.1 hz
  rw [List.getElem?_take] at hj
  split at hj
  · rename_i hlt
    rcases Nat.lt_or_ge j i with h' | h'
    · obtain ⟨p1, e1⟩ := List.getElem?_eq_some_iff.1 hj
      obtain ⟨p2, e2⟩ := List.getElem?_eq_some_iff.1 hy
      have := List.pairwise_iff_getElem.1 hs j i p1 p2 h'
      rw [e1, e2] at this
      exact lt_tr this h
    · rw [show j = i from by omega, hy] at hj
      cases hj
      exact h
  · cases hj
/-- the pairs of so many keys of a map, by keys -/
def SoFar (M : Mp) (k : Nat) (l : List Slot) : Prop := Srt l ∧ l.length = k ∧ ∀ x, x ∈ l ↔ x ∈ (fullP M).take k
theorem so_all {H : Tx → Nat} {M : Mp} (hI : Inv H M) {l : List Slot} (h : SoFar M (fullP M).length l) : l = pairsP M := by
  refine (pairs_of hI h.1 fun k v => ?_).symm
  rw [h.2.2, List.take_length, mem_full]
end Go.Proofs.YtodledidabdkaaaGreatDoor.V

namespace Go.Proofs.YtodledidabdkaaaGreatDoor
open Go.RowKit Go.Shelf Go.Sort V
set_option linter.unusedVariables false
set_option linter.unusedSimpArgs false
theorem own_set2 {w : World} {base e n cap g : Nat} {l : List Slot} (h : w.ownsRow base e 2 (.slice (some ⟨g, 0, none⟩) n cap) n (scs l)) (i : Nat) (s : Slot) : ((w.setCell ⟨g, i * 2, none⟩ (.string s.1)).setCell ⟨g, i * 2 + 1, none⟩ (.string s.2)).ownsRow base e 2 (.slice (some ⟨g, 0, none⟩) n cap) n (scs (l.set i s)) := by
  rcases h.2 with ⟨e1, _⟩ | ⟨g', cap', cur, e1, hb, hg, hn, hm, hs, ht⟩
  · cases e1
  · injection e1 with e1 _ e2
    injection e1 with e1
    injection e1 with e1
    subst e1 e2
    refine ⟨by have := h.1; rw [scs_len] at this ⊢; simpa using this, .inr ⟨g, cap, _, rfl, hb, blk_set (blk_set hg _ _) _ _, hn, hm, by simpa using hs, ?_⟩⟩
    rw [scs_set, ← ht]
    simp only [Array.toList_setIfInBounds, List.take_set]
theorem own_blk {w : World} {base e n cap g : Nat} {xs : List Value} (h : w.ownsRow base e 2 (.slice (some ⟨g, 0, none⟩) n cap) n xs) : ∃ cur, w.heap[g]? = some (.cells cur e (0, 0)) ∧ cur.size = cap * 2 ∧ n ≤ cap := by
  rcases h.2 with ⟨e1, _⟩ | ⟨g', cap', cur, e1, hb, hg, hn, hm, hs, ht⟩
  · cases e1
  · injection e1 with e1 _ e2
    injection e1 with e1
    injection e1 with e1
    subst e1 e2
    exact ⟨cur, hg, hs, hn⟩
theorem own_cell2 {w : World} {base e n cap g i : Nat} {l : List Slot} {s : Slot} (h : w.ownsRow base e 2 (.slice (some ⟨g, 0, none⟩) n cap) n (scs l)) (hi : l[i]? = some s) : w.cell? ⟨g, i * 2, none⟩ = some (.string s.1) ∧ w.cell? ⟨g, i * 2 + 1, none⟩ = some (.string s.2) := by
  rcases own_at h with ⟨e1, _⟩ | ⟨g', cap', cur, e1, _, _, hat⟩
  · cases e1
  · injection e1 with e1
    injection e1 with e1
    injection e1 with e1
    subst e1
    obtain ⟨g1, g2⟩ := scs_get hi
    exact ⟨hat _ _ g1, hat _ _ g2⟩
set_option maxRecDepth 100000 in
set_option maxHeartbeats 4000000 in
theorem r7pairs_any (k0 k1 bm : Nat) (M : Mp) (O : Nat → Prop) (w : World) (h : Ql k0 k1 bm M O w) : Calls Tryz.prog 13 #[.pointer (some ⟨bm, 0, none⟩)] w fun e w' => ∃ A c, e = .returned (.slice A (pairsP M).length c) ∧ Foot All (Sl A (pairsP M).length c 2 (scs (pairsP M))) w' ∧ Kp All w w' := by
  obtain ⟨bw, cw, bs, cs, hm, hO⟩ := h.ms
  have hI := h.inv
  have HI := hid hI; have HM := hid hm; have HH := hid h
  have HKEY := hid (r5keys_any k0 k1 bm bw cw bs cs M hI.pm w hm)
  have HGET := hid (fun W (k : Kp All w W) key v (hk : key.size ≤ 9000000000000000000) (hh : Has M key v) => show Calls Tryz.prog 45 #[.pointer (some ⟨bm, 0, none⟩), .string key] W fun e w' => e = .returned (.tuple #[.string v, .bool true]) ∧ Kp All W w' from by
    refine (r5get_any k0 k1 bm bw cw bs cs M hI.pm h.h0 h.h1 key hk W (hm.all k) (fun i hf => ?_)).mono ?_
    · obtain ⟨v0, hFu⟩ := find_mem hI hf
      have := hFu.lt
      rw [hI.pm.len] at this
      exact this
    · rintro e w' ⟨rfl, k⟩
      exact ⟨by rw [(get_some hI).2 hh]; rfl, k⟩)
  have hlen : (fullP M).length ≤ 2000 := by rw [full_len hI.slen]; exact hI.most
  have hnd := full_nodup hI
  have HND := hid hnd
  clear h hm hO hI hnd
  go_enter Tryz.func13, Tryz.ntmps13
  go_wp2_with fail
  refine HKEY.out.mono ?_
  rintro e w2 ⟨v, rfl, hrow, hk2⟩
  obtain ⟨A2, c2, rfl⟩ := own_shape hrow
  have HROW := hid (own_footz hrow)
  have hkl : (keysP M).length = (fullP M).length := by unfold keysP; rw [List.length_map]
  obtain ⟨N, hN⟩ : ∃ N, (fullP M).length = N := ⟨_, rfl⟩
  have HN := hid hN
  rw [hkl, hN] at HROW
  rw [hkl, hN]
  rw [hN] at hlen
  have HK2 := hid hk2
  clear hrow hk2 hkl hN
  go_wp2_with fail
  go_loopw [3, 12] (fun x i wr => ∃ (k : Nat) (l : List Slot), k ≤ N ∧ i = .int .i64 k ∧ Hid (SoFar M k l) ∧ Hid (wr.ownsRow w2.heap.size 35 2 x k (scs l)) ∧ Hid (Kp All w2 wr)) (fun _ i _ => N - (ivl i).toNat)
  case atStart => exact ⟨0, [], Nat.zero_le _, rfl, hid ⟨List.Pairwise.nil, rfl, fun x => by simp⟩, hid (World.ownsRow_nil _ _ _ _), Kp.refl _ _⟩
  case round =>
    obtain ⟨k, l, hk, rfl, hso, hown, hkp⟩ := hrel
    obtain ⟨A3, c3, rfl⟩ := own_shape hown.out
    by_cases hlt : k < N
    · have d9 : decide ((k : Int) < (N : Int)) = true := decide_eq_true (by omega)
      obtain ⟨s, hs⟩ : ∃ s, (fullP M)[k]? = some s := ⟨_, List.getElem?_eq_getElem (by rw [HN.out]; exact hlt)⟩
      obtain ⟨kx, vx⟩ := s
      have hhas : Has M kx vx := mem_full.1 (List.mem_of_getElem? hs)
      obtain ⟨b2, o2, rfl, hr2⟩ := (HROW.out wr hkp.out).2.2 (by omega)
      have p1 := hr2 k (.string kx) (by unfold strs keysP; rw [List.getElem?_map, List.getElem?_map, hs]; rfl)
      have hb2 := World.block_lt_of_cell? _ _ p1
      have i0 : (0 : Int) ≤ (k : Int) := by omega
      have i1 : (k : Int) < (N : Int) := by omega
      have hsz := hkp.out.size
      have HG := HGET.out wr (HK2.out.trans hkp.out) kx vx (HH.out.keys kx vx hhas) hhas
      have HG := hid HG
      have HS := hid hs
      clear hs hhas hr2
      go_wp2_with fail
      refine HG.out.mono ?_
      rintro e w4 ⟨rfl, hk4⟩
      have hown4 := own_kept hown.out hk4 (fun _ _ => trivial)
      have hsz4 : w2.heap.size ≤ w4.heap.size := Nat.le_trans hsz hk4.size
      have HO4 := hid hown4
      have HK4 := hid (hkp.out.trans hk4)
      clear hown4 hk4 p1
      go_wp2_with (at_builtin; go_loud (refine wpList_app elP (World.ownsRow.alloc HO4.out _) (sl_new2 rfl (kx, vx) _) (two_one (kx, vx)) ?_ ?_ rfl _ _ rfl rfl rfl ?_); omega; (simp only [World.size_alloc]; omega); intro v' w7 hown7 hg7 hob7 hnil7; have HOW7 := hid hown7; have HNIL := hid hnil7; have HK7 := hid (show Kp All w2 w7 from (HK4.out.alloc _).then (Kp.grown hg7) (fun i hi _ e => by have := (HO4.out.lt i e.symm).1; omega)); clear hown7 hg7 hob7 hnil7)
      have hne7 : ∀ (a b : Prop), a ∨ b → a ∨ b := fun _ _ h => h
      rcases HOW7.out.2 with ⟨_, e2⟩ | ⟨g7, cap7, cur7, e7, hg7, hgb7, hn7, hm7, hs7, ht7⟩
      · omega
      subst e7
      have HG7 := hid hg7
      have HR0 : Hid (w7.ownsRow w2.heap.size 35 2 (.slice (some ⟨g7, 0, none⟩) (k + 1) cap7) (k + 1) (scs (gapP l k (kx, vx)))) := hid (by
        have h1 := HOW7.out
        rw [show k = l.length from hso.out.2.1.symm, gap_end, scs_append]
        rw [show k = l.length from hso.out.2.1.symm] at h1
        exact h1)
      clear hne7 HOW7 hgb7 hn7 hm7 hs7 ht7 hg7 HNIL
      go_loopw [8] (fun i ws => ∃ (u : Nat) (h : Slot), u ≤ k ∧ i = .int .i64 u ∧ Hid (∀ y ∈ l.drop u, bl kx < bl y.1) ∧ Hid (ws.ownsRow w2.heap.size 35 2 (.slice (some ⟨g7, 0, none⟩) (k + 1) cap7) (k + 1) (scs (gapP l u h))) ∧ Hid (Kp All w2 ws)) (fun i _ => (ivl i).toNat)
      case atStart => exact ⟨k, (kx, vx), Nat.le_refl _, rfl, hid (fun y hy => by rw [List.drop_of_length_le (by rw [hso.out.2.1]; exact Nat.le_refl _)] at hy; cases hy), HR0, HK7⟩
      case round =>
        obtain ⟨u, hh, hu, rfl, hdr, hrow, hkp3⟩ := hrel
        have u0 : (0 : Int) ≤ (u : Int) := by omega
        have u1 : (u : Int) < (k : Int) + 1 := by omega
        by_cases hup : 0 < u
        · have du : decide ((0 : Int) < (u : Int)) = true := decide_eq_true (by omega)
          obtain ⟨t, ht⟩ : ∃ t, t + 1 = u := ⟨u - 1, by omega⟩
          obtain ⟨y, hy⟩ : ∃ y, l[t]? = some y := ⟨_, List.getElem?_eq_getElem (by rw [hso.out.2.1]; omega)⟩
          obtain ⟨y1, y2⟩ := y
          have hgy : (gapP l u hh)[t]? = some (y1, y2) := by rw [gap_lt (by omega) (by rw [hso.out.2.1]; exact hu)]; exact hy
          obtain ⟨q1, q2⟩ := own_cell2 hrow.out hgy
          dsimp only at q1 q2
          have hbq := World.block_lt_of_cell? _ _ q1
          have hsub : IntKind.i64.wrap ((u : Int) - 1) = (t : Int) := by rw [show (u : Int) - 1 = (t : Int) from by omega]; exact IntWalk.i64_in _ (by omega)
          have t0 : (0 : Int) ≤ (t : Int) := by omega
          have t1 : (t : Int) < (k : Int) + 1 := by omega
          have hym := hso.out.2.2 (y1, y2)
          have hyk : y1 ≠ kx := by
            have hin := hym.1 (List.mem_of_getElem? hy)
            obtain ⟨j, hj⟩ := List.mem_iff_getElem?.1 hin
            rw [List.getElem?_take] at hj
            split at hj
            · rename_i hjk
              obtain ⟨p1, e1⟩ := List.getElem?_eq_some_iff.1 hj
              obtain ⟨p2, e2⟩ := List.getElem?_eq_some_iff.1 HS.out
              have := List.pairwise_iff_getElem.1 HND.out j k p1 p2 hjk
              rw [e1, e2] at this
              exact this
            · cases hj
          have heq : (y1.toList == kx.toList) = false := toList_ne hyk
          by_cases hlt2 : bl y1 < bl kx
          · have hcm : Op.bytesLess y1.toList kx.toList = true := by rw [lss_tx]; exact decide_eq_true hlt2
            have htk : ∀ y ∈ l.take u, bl y.1 < bl (kx, vx).1 := by rw [← ht]; exact srt_take hso.out.1 hy hlt2
            clear hgy hym hyk hlt2 hy ht q2
            obtain ⟨cur, hcur, hcz, hcn⟩ := own_blk hrow.out
            have fr := blk_free hcur
            obtain ⟨o1, fc1⟩ : ∃ o, wr.cell? ⟨g7, u * 2, none⟩ = some o := ⟨_, by rw [blk_cell hcur]; exact Array.getElem?_eq_getElem (by omega)⟩
            obtain ⟨o2, fc2⟩ : ∃ o, wr.cell? ⟨g7, u * 2 + 1, none⟩ = some o := ⟨_, by rw [blk_cell hcur]; exact Array.getElem?_eq_getElem (by omega)⟩
            have HTK := hid htk
            clear hcur htk
            go_wp2_with fail
            refine ⟨⟨k + 1, gapP l u (kx, vx), by omega, by go_num, hid ⟨gap_srt hso.out.1 HTK.out hdr.out, by rw [gap_len, hso.out.2.1], fun x => ?_⟩, hid ?_, ?_⟩, by simp [ivl]; omega⟩
            · rw [gap_mem, List.take_add_one, HS.out, List.mem_append, hso.out.2.2]
              simp [or_comm]
            · have h1 := own_set2 hrow.out u (kx, vx)
              rw [gap_set (by rw [hso.out.2.1]; exact hu)] at h1
              exact h1
            · exact (hkp3.out.setNew (by have := HG7.out; omega) _).setNew (by have := HG7.out; omega) _
          · have hcm : Op.bytesLess y1.toList kx.toList = false := by rw [lss_tx]; exact decide_eq_false hlt2
            have hgt : bl kx < bl y1 := by
              rcases tri_lt (bl y1) (bl kx) with h | h | h
              · exact absurd h hlt2
              · exact absurd (bl_inj h) hyk
              · exact h
            obtain ⟨cur, hcur, hcz, hcn⟩ := own_blk hrow.out
            have fr := blk_free hcur
            obtain ⟨o1, fc1⟩ : ∃ o, wr.cell? ⟨g7, u * 2, none⟩ = some o := ⟨_, by rw [blk_cell hcur]; exact Array.getElem?_eq_getElem (by omega)⟩
            obtain ⟨o2, fc2⟩ : ∃ o, wr.cell? ⟨g7, u * 2 + 1, none⟩ = some o := ⟨_, by rw [blk_cell hcur]; exact Array.getElem?_eq_getElem (by omega)⟩
            have HY := hid hy; have HT := hid ht; have HGT := hid hgt
            clear hgy hym hyk hlt2 hcur hy ht hgt
            go_wp2_with fail
            refine ⟨⟨t, (y1, y2), by have := HT.out; omega, rfl, hid (fun z hz => ?_), hid ?_, (hkp3.out.setNew (by have := HG7.out; omega) _).setNew (by have := HG7.out; omega) _⟩, by have := HT.out; simp [ivl]; omega⟩
            · obtain ⟨p1, e1⟩ := List.getElem?_eq_some_iff.1 HY.out
              rw [List.drop_eq_getElem_cons p1, e1] at hz
              rcases List.mem_cons.1 hz with rfl | hz
              · exact HGT.out
              · rw [HT.out] at hz; exact hdr.out z hz
            · have h1 := own_set2 hrow.out u (y1, y2)
              rw [gap_set (by rw [hso.out.2.1]; exact hu), ← HT.out, gap_step (by rw [hso.out.2.1]; have := HT.out; omega) HY.out] at h1
              rw [HT.out] at h1
              exact h1
        · have du : decide ((0 : Int) < (u : Int)) = false := decide_eq_false (by omega)
          have htk : ∀ y ∈ l.take u, bl y.1 < bl (kx, vx).1 := by rw [show u = 0 from by omega]; intro y hy; simp at hy
          obtain ⟨cur, hcur, hcz, hcn⟩ := own_blk hrow.out
          have fr := blk_free hcur
          obtain ⟨o1, fc1⟩ : ∃ o, wr.cell? ⟨g7, u * 2, none⟩ = some o := ⟨_, by rw [blk_cell hcur]; exact Array.getElem?_eq_getElem (by omega)⟩
          obtain ⟨o2, fc2⟩ : ∃ o, wr.cell? ⟨g7, u * 2 + 1, none⟩ = some o := ⟨_, by rw [blk_cell hcur]; exact Array.getElem?_eq_getElem (by omega)⟩
          have HTK := hid htk
          clear hcur htk
          go_wp2_with fail
          refine ⟨⟨k + 1, gapP l u (kx, vx), by omega, by go_num, hid ⟨gap_srt hso.out.1 HTK.out hdr.out, by rw [gap_len, hso.out.2.1], fun x => ?_⟩, hid ?_, ?_⟩, by simp [ivl]; omega⟩
          · rw [gap_mem, List.take_add_one, HS.out, List.mem_append, hso.out.2.2]
            simp [or_comm]
          · have h1 := own_set2 hrow.out u (kx, vx)
            rw [gap_set (by rw [hso.out.2.1]; exact hu)] at h1
            exact h1
          · exact (hkp3.out.setNew (by have := HG7.out; omega) _).setNew (by have := HG7.out; omega) _
    · have d9 : decide ((k : Int) < (N : Int)) = false := decide_eq_false (by omega)
      have hkn : k = N := by omega
      have hl : l = pairsP M := so_all HI.out (by rw [HN.out, ← hkn]; exact hso.out)
      have ho := own_foot2 hown.out
      have hll : (pairsP M).length = k := by rw [← hl]; exact hso.out.2.1
      have HO : Hid (Foot All (Sl A3 (pairsP M).length c3 2 (scs (pairsP M))) wr) := hid (by rw [hll, ← hl]; exact ho)
      have HLL := hid hll
      clear hkn hl ho hll
      go_wp2_with fail
      go_ret
      exact ⟨A3, c3, by rw [HLL.out]; rfl, HO.out, HK2.out.trans hkp.out⟩
end Go.Proofs.YtodledidabdkaaaGreatDoor

namespace Go.Proofs.YtodledidabdkaaaGreatDoor
open Go.RowKit Go.Shelf Go.Sort V
set_option linter.unusedVariables false
set_option linter.unusedSimpArgs false
/-- what Cut has gathered -/
def cutP (L : List Slot) (lo hi : Tx) (n : Int) (k : Nat) : List Slot := rangeP (L.take k) lo hi n
theorem cut_skip {L : List Slot} {lo hi : Tx} {n : Int} {k : Nat} {p : Slot} (hp : L[k]? = some p) (h : inR lo hi p = false ∨ ¬ (((cutP L lo hi n k).length : Nat) : Int) < n) : cutP L lo hi n (k + 1) = cutP L lo hi n k := by
  unfold cutP rangeP at *
  rw [List.take_add_one, hp, List.filter_append]
  rcases h with h | h
  · simp [h]
  · rw [List.length_take] at h
    rw [List.take_append, show (max n 0).toNat - (List.filter (inR lo hi) (List.take k L)).length = 0 from by omega]
    simp
theorem cut_add {L : List Slot} {lo hi : Tx} {n : Int} {k : Nat} {p : Slot} (hp : L[k]? = some p) (h1 : inR lo hi p = true) (h2 : (((cutP L lo hi n k).length : Nat) : Int) < n) : cutP L lo hi n (k + 1) = cutP L lo hi n k ++ [p] := by
  unfold cutP rangeP at *
  rw [List.take_add_one, hp, List.filter_append]
  rw [List.length_take] at h2
  rw [List.take_append, List.take_of_length_le (l := List.filter (inR lo hi) (List.take k L)) (by omega)]
  congr 1
  simp only [Option.toList_some]
  rw [List.filter_cons_of_pos h1, List.filter_nil, List.take_of_length_le (by simp; omega)]
theorem cut_len (L : List Slot) (lo hi : Tx) (n : Int) (k : Nat) : (cutP L lo hi n k).length ≤ L.length := by
  unfold cutP rangeP
  rw [List.length_take]
  have := List.length_filter_le (inR lo hi) (List.take k L)
  rw [List.length_take] at this
  omega
set_option maxRecDepth 100000 in
set_option maxHeartbeats 4000000 in
theorem r7cut_any (A : Option Addr) (n c : Nat) (L : List Slot) (lo hi : Tx) (lim : Int) (hn : L.length = n) (hl : n ≤ 2000) (w : World) (h : Foot All (Sl A n c 2 (scs L)) w) : Calls Tryz.prog 17 #[.slice A n c, .string lo, .string hi, .int .i64 lim] w fun e w' => ∃ A' c', e = .returned (.slice A' (rangeP L lo hi lim).length c') ∧ Foot All (Sl A' (rangeP L lo hi lim).length c' 2 (scs (rangeP L lo hi lim))) w' ∧ Kp All w w' := by
  have H := hid h; have HN := hid hn
  have HE : Hid (cutP L lo hi lim n = rangeP L lo hi lim) := hid (by unfold cutP; rw [List.take_of_length_le (by omega)])
  clear h hn
  obtain ⟨b2, hb2⟩ : ∃ b2, (hi.toList == []) = b2 := ⟨_, rfl⟩
  have HB2 := hid hb2
  go_enter Tryz.func17, Tryz.ntmps17
  go_wp2_with fail
  go_loopw [9, 14] (fun x i wr => ∃ k : Nat, k ≤ n ∧ i = .int .i64 k ∧ Hid (wr.ownsRow w.heap.size 35 2 x (cutP L lo hi lim k).length (scs (cutP L lo hi lim k))) ∧ Hid (Kp All w wr)) (fun _ i _ => n - (ivl i).toNat)
  case atStart => exact ⟨0, Nat.zero_le _, rfl, hid (by
    have e : cutP L lo hi lim 0 = [] := by simp [cutP, rangeP]
    rw [e]; exact World.ownsRow_nil _ _ _ _), Kp.refl _ _⟩
  case round =>
    obtain ⟨k, hk, rfl, hown, hkp⟩ := hrel
    obtain ⟨A3, c3, rfl⟩ := own_shape hown.out
    by_cases hlt : k < n
    · have hb0 : decide ((k : Int) < (n : Int)) = true := decide_eq_true (by omega)
      obtain ⟨x, hx⟩ : ∃ x, L[k]? = some x := ⟨_, List.getElem?_eq_getElem (by rw [HN.out]; exact hlt)⟩
      obtain ⟨x1, x2⟩ := x
      obtain ⟨b, o, rfl, hr⟩ := (H.out wr hkp.out).2.2 (by omega)
      obtain ⟨g1, g2⟩ := scs_get hx
      have p1 := hr _ _ g1
      have p2 := hr _ _ g2
      rw [← Nat.add_assoc] at p2
      dsimp only at p1 p2
      have hb1 := World.block_lt_of_cell? _ _ p1
      have i0 : (0 : Int) ≤ (k : Int) := by omega
      have i1 : (k : Int) < (n : Int) := by omega
      have HX := hid hx
      have hcl := cut_len L lo hi lim k
      have hsz := hkp.out.size
      have hin : inR lo hi (x1, x2) = (!(Op.bytesLess x1.toList lo.toList) && ((hi.toList == []) || Op.bytesLess x1.toList hi.toList)) := by
        rw [lss_tx, lss_tx, emp_tx]
        rfl
      have HC1 := hid (fun h => cut_skip (lo := lo) (hi := hi) (n := lim) HX.out h)
      have HC2 := hid (fun h1 h2 => cut_add (lo := lo) (hi := hi) (n := lim) HX.out h1 h2)
      obtain ⟨R, hR⟩ : ∃ R, cutP L lo hi lim k = R := ⟨_, rfl⟩
      rw [hR] at hown hcl HC1 HC2 ⊢
      obtain ⟨m, hm⟩ : ∃ m, R.length = m := ⟨_, rfl⟩
      have HMM := hid hm
      rw [hm] at hown hcl HC1 HC2 ⊢
      rw [HN.out] at hcl
      obtain ⟨b1, hb1'⟩ : ∃ b1, Op.bytesLess x1.toList lo.toList = b1 := ⟨_, rfl⟩
      obtain ⟨b3, hb3⟩ : ∃ b3, Op.bytesLess x1.toList hi.toList = b3 := ⟨_, rfl⟩
      rw [hb1', hb2, hb3] at hin
      have HIN := hid hin
      clear hx hr g1 g2 hin hR hm
      cases b1 with
      | true =>
        go_wp2_with fail
        have hsk := HC1.out (.inl (by rw [HIN.out]; rfl))
        refine ⟨⟨k + 1, by omega, by go_num, hid ?_, hid (hkp.out.alloc _)⟩, by simp [ivl]; omega⟩
        rw [hsk, HMM.out]
        exact World.ownsRow.alloc hown.out _
      | false =>
        cases b2 with
        | true =>
          by_cases hl4 : (m : Int) < lim
          · have d4 : decide ((m : Int) < lim) = true := decide_eq_true hl4
            have HLT := hid hl4
            clear hl4
            go_wp2_with (at_builtin; go_loud (refine wpList_app elP (World.ownsRow.alloc (World.ownsRow.alloc hown.out _) _) (sl_new2 (m := wr.heap.size + 1) (by simp) (x1, x2) _) (two_one (x1, x2)) ?_ ?_ rfl _ _ rfl rfl rfl ?_); omega; (simp only [World.size_alloc]; omega); intro v' w7 hown7 hg7 hob7 hnil7; obtain ⟨A7, c7, rfl⟩ := own_shape hown7; have HOW7 := hid hown7; have HK7 := hid (show Kp All w w7 from ((hkp.out.alloc _).alloc _).then (Kp.grown hg7) (fun i hi _ e => by have := (hown.out.lt i e.symm).1; omega)); clear hown7 hg7 hob7 hnil7)
            have hadd := HC2.out (by rw [HIN.out]; rfl) HLT.out
            refine ⟨⟨k + 1, by omega, by go_num, hid ?_, HK7⟩, by simp [ivl]; omega⟩
            rw [hadd, List.length_append, HMM.out, scs_append]
            exact HOW7.out
          · have d4 : decide ((m : Int) < lim) = false := decide_eq_false hl4
            have HLT := hid hl4
            clear hl4
            go_wp2_with fail
            have hsk := HC1.out (.inr HLT.out)
            refine ⟨⟨k + 1, by omega, by go_num, hid ?_, hid (hkp.out.alloc _)⟩, by simp [ivl]; omega⟩
            rw [hsk, HMM.out]
            exact World.ownsRow.alloc hown.out _
        | false =>
          cases b3 with
          | false =>
            go_wp2_with fail
            have hsk := HC1.out (.inl (by rw [HIN.out]; rfl))
            refine ⟨⟨k + 1, by omega, by go_num, hid ?_, hid (hkp.out.alloc _)⟩, by simp [ivl]; omega⟩
            rw [hsk, HMM.out]
            exact World.ownsRow.alloc hown.out _
          | true =>
            by_cases hl4 : (m : Int) < lim
            · have d4 : decide ((m : Int) < lim) = true := decide_eq_true hl4
              have HLT := hid hl4
              clear hl4
              go_wp2_with (at_builtin; go_loud (refine wpList_app elP (World.ownsRow.alloc (World.ownsRow.alloc hown.out _) _) (sl_new2 (m := wr.heap.size + 1) (by simp) (x1, x2) _) (two_one (x1, x2)) ?_ ?_ rfl _ _ rfl rfl rfl ?_); omega; (simp only [World.size_alloc]; omega); intro v' w7 hown7 hg7 hob7 hnil7; obtain ⟨A7, c7, rfl⟩ := own_shape hown7; have HOW7 := hid hown7; have HK7 := hid (show Kp All w w7 from ((hkp.out.alloc _).alloc _).then (Kp.grown hg7) (fun i hi _ e => by have := (hown.out.lt i e.symm).1; omega)); clear hown7 hg7 hob7 hnil7)
              have hadd := HC2.out (by rw [HIN.out]; rfl) HLT.out
              refine ⟨⟨k + 1, by omega, by go_num, hid ?_, HK7⟩, by simp [ivl]; omega⟩
              rw [hadd, List.length_append, HMM.out, scs_append]
              exact HOW7.out
            · have d4 : decide ((m : Int) < lim) = false := decide_eq_false hl4
              have HLT := hid hl4
              clear hl4
              go_wp2_with fail
              have hsk := HC1.out (.inr HLT.out)
              refine ⟨⟨k + 1, by omega, by go_num, hid ?_, hid (hkp.out.alloc _)⟩, by simp [ivl]; omega⟩
              rw [hsk, HMM.out]
              exact World.ownsRow.alloc hown.out _
    · have hb0 : decide ((k : Int) < (n : Int)) = false := decide_eq_false (by omega)
      have hkn : k = n := by omega
      rw [hkn, HE.out] at hown
      rw [hkn, HE.out]
      have HO := hid (own_foot2 hown.out)
      clear hkn
      go_wp2_with fail
      go_ret
      exact ⟨_, _, rfl, HO.out, hkp.out⟩
end Go.Proofs.YtodledidabdkaaaGreatDoor

namespace Go.Proofs.YtodledidabdkaaaGreatDoor
open Go.RowKit Go.Shelf Go.Sort V
set_option linter.unusedVariables false
set_option linter.unusedSimpArgs false
set_option maxRecDepth 100000 in
set_option maxHeartbeats 1000000 in
theorem r7bytes_any (A : Option Addr) (n c : Nat) (L : List Slot) (hn : L.length = n) (hlen : n ≤ 2000) (hsz : ∀ x ∈ L, x.1.size + x.2.size ≤ 1000000) (w : World) (h : Foot All (Sl A n c 2 (scs L)) w) : Calls Tryz.prog 20 #[.slice A n c] w (OutB w (encImg L)) := by
  have HF := hid h; have HN := hid hn; have HSZ := hid hsz
  have hwn : IntKind.u64.wrap (n : Int) = (n : Int) := by rw [wrap64u]; omega
  clear h hn hsz
  go_enter Tryz.func20, Tryz.ntmps20
  go_wp2_with fail
  refine (rput_any _ [] n (by omega) (by simp) _ (rb_nil _)).mono ?_
  rintro e w3 ⟨⟨v3, rfl, hr3⟩, k3⟩
  obtain ⟨A3, c3, rfl⟩ := own_shape hr3
  have HR3 := hid hr3
  have HK3 := hid k3
  clear hr3 k3
  have hst : w3.ownsRow w.heap.size 5 1 (.slice A3 ([] ++ enc n).length c3) (enc n ++ (L.take 0).flatMap encPr).length (u8s (enc n ++ (L.take 0).flatMap encPr)) := by
    have h := HR3.out
    simp only [List.take_zero, List.flatMap_nil, List.append_nil]
    exact h
  have HST := hid hst
  have HF3 := hid (HF.out.step HK3.out)
  have HK03 := hid HK3.out
  clear hst
  obtain ⟨v3, hv3⟩ : ∃ v3, Value.slice A3 ([] ++ enc n).length c3 = v3 := ⟨_, rfl⟩
  rw [hv3] at HST ⊢
  clear hv3 HF HR3
  go_wp2_with fail
  go_loopw [3, 12] (fun x i wr => ∃ (k : Nat), k ≤ n ∧ i = .int .i64 k ∧ Hid (wr.ownsRow w.heap.size 5 1 x (enc n ++ (L.take k).flatMap encPr).length (u8s (enc n ++ (L.take k).flatMap encPr))) ∧ Hid (Kp All w wr) ∧ Hid (Kp All w3 wr)) (fun _ i _ => n - (ivl i).toNat)
  case atStart => exact ⟨0, Nat.zero_le _, rfl, HST, HK03, Kp.refl _ _⟩
  case round =>
    obtain ⟨k, hk, rfl, hown, hkp, hkp3⟩ := hrel
    by_cases hlt : k < n
    · have hb0 : decide ((k : Int) < (n : Int)) = true := decide_eq_true (by omega)
      obtain ⟨p, hpk⟩ : ∃ p, L[k]? = some p := ⟨_, List.getElem?_eq_getElem (by rw [HN.out]; exact hlt)⟩
      obtain ⟨b, o, rfl, hr⟩ := (HF3.out wr hkp3.out).2.2 (by omega)
      obtain ⟨p1s, p2s⟩ := p
      obtain ⟨g1, g2⟩ := scs_get hpk
      have p1 := hr _ _ g1
      have p2 := hr _ _ g2
      rw [← Nat.add_assoc] at p2
      dsimp only at p1 p2
      have ht : (L.take (k + 1)).flatMap encPr = (L.take k).flatMap encPr ++ (encText p1s ++ encText p2s) := by
        rw [List.take_add_one, hpk, List.flatMap_append]
        simp [encPr]
      have hsz := HSZ.out (p1s, p2s) (List.mem_of_getElem? hpk)
      dsimp only at hsz
      have hcl : ((L.take k).flatMap encPr).length ≤ 2000 * 1000018 := by
        refine Nat.le_trans (encPrs_len _ fun x hx => HSZ.out x (List.mem_of_mem_take hx)) (Nat.mul_le_mul_right _ ?_)
        rw [List.length_take]; omega
      have hnl := enc_len_le n
      have hp1 := encText_len p1s
      have HT := hid ht
      obtain ⟨cur, hcur⟩ : ∃ cur, enc n ++ (L.take k).flatMap encPr = cur := ⟨_, rfl⟩
      have hL1 : Hid (cur.length + p1s.size ≤ 140737488200000) := hid (by rw [← hcur, List.length_append]; omega)
      have hL2 : Hid ((cur ++ encText p1s).length + p2s.size ≤ 140737488200000) := hid (by rw [← hcur, List.length_append, List.length_append]; omega)
      rw [hcur] at hown
      have HCUR := hid hcur
      have hb1 := World.block_lt_of_cell? _ _ p1
      have i0 : (0 : Int) ≤ (k : Int) := by omega
      have i1 : (k : Int) < (n : Int) := by omega
      clear hpk ht hcur g1 g2 hr hsz hcl hnl hp1
      go_wp2_with fail
      have b7 := blk_new wr (.cells #[.string p1s, .string p2s] 35)
      have k7 : Kp All wr (wr.alloc (.cells #[.string p1s, .string p2s] 35)) := Kp.al _ _
      obtain ⟨W7, hW7⟩ : ∃ W7, W7 = wr.alloc (.cells #[.string p1s, .string p2s] 35) := ⟨_, rfl⟩
      rw [← hW7] at b7 k7 ⊢
      have c7 := blk_cell b7
      have B7 := hid b7
      have HO7 := hid (own_kept hown.out k7 (fun _ _ => trivial))
      have HK7 := hid (hkp.out.trans k7)
      have HK73 := hid (hkp3.out.trans k7)
      clear b7 hW7 k7 p1 p2
      go_region_held3 (fun w' => ∀ i, w'.cell? ⟨wr.heap.size, i, none⟩ = (#[.string p1s, .string p2s] : Array Value)[i]?) (first | exact blk_cell (HK8.out.heap B7.out trivial) | exact blk_cell (HK9.out.heap B7.out trivial) | assumption) (first | (go_at_call 55; refine (rputtext_any _ (cur ++ encText p1s) p2s hL2.out _ (own_rb H8.out)).mono ?_; rintro e w9 ⟨⟨v9, rfl, h9⟩, k9⟩; have H9 := hid h9; have HK9 := hid (HK8.out.trans k9); clear h9 k9) | (go_at_call 55; refine (rputtext_any _ cur p1s hL1.out _ (own_rb (own_kept HO7.out (Kp.refl All _).drew (fun _ _ => trivial)))).mono ?_; rintro e w8 ⟨⟨v8, rfl, h8⟩, k8⟩; have H8 := hid h8; have HK8 := hid ((Kp.refl All W7).drew.trans k8); clear h8 k8))
      go_wp2_with fail
      have hs8 : w.heap.size ≤ w8.heap.size := (HK7.out.trans HK8.out).size
      have e9 : enc n ++ (L.take (k + 1)).flatMap encPr = cur ++ encText p1s ++ encText p2s := by
        rw [HT.out, ← List.append_assoc, HCUR.out, ← List.append_assoc]
      have h9 := own_mono H9.out hs8
      rw [← e9] at h9
      refine ⟨⟨k + 1, by omega, by go_num, hid h9, hid (HK7.out.trans HK9.out), hid (HK73.out.trans HK9.out)⟩, ?_⟩
      simp [ivl]
      omega
    · have hb0 : decide ((k : Int) < (n : Int)) = false := decide_eq_false (by omega)
      have : k = n := by omega
      subst this
      have hf : enc k ++ (L.take k).flatMap encPr = encImg L := by
        unfold encImg
        rw [List.take_of_length_le (by rw [HN.out]; exact Nat.le_refl _), HN.out]
      rw [hf] at hown
      go_wp2_with fail
      go_ret
      exact ⟨⟨_, rfl, hown.out⟩, hkp.out⟩
end Go.Proofs.YtodledidabdkaaaGreatDoor
