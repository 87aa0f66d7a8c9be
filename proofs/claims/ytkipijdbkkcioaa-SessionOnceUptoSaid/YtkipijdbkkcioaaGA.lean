/- command.ReadReply on any bytes, walked once. No condition but that the bytes are not great. -/
import Derived.Test.YtkipijdbkkcioaaCZ
import Derived.Test.YtkipijdbkkcioaaRT
import Derived.Test.YtkipijdbkkcioaaSD
namespace Go.Proofs.Ytkipijdbkkcioaa
open Go.RowKit
set_option linter.unusedVariables false
set_option linter.unusedSimpArgs false
/-- What ReadReply tells. -/
def ReadR (xs : By) (w : World) (e : Ending) (w' : World) : Prop :=
  ((∃ r A c, readP xs = some r ∧ e = .returned (.tuple #[RV r A c, .int .i64 0]) ∧ Foot (fun b => w.heap.size ≤ b) (Ps A c r.pairs) w' ∧ r.pairs.length ≤ xs.length + 1) ∨ (readP xs = none ∧ e = .returned (.tuple #[RV .z none 0, .int .i64 8]))) ∧ Kp All w w'
theorem readP_of {xs : By} {s1 s2 s3 s4 s5 s6 : Sx} {ps : List (ByteArray × ByteArray)} (h1 : nX (xs, false) = s1) (h2 : nX s1 = s2) (h3 : bX s2 = s3) (h4 : tX s3 = s4) (h5 : nX s4 = s5) (h6 : pairsP (nV s4) s5 [] = (ps, s6)) :
    readP xs = if endP s6 = true then some ⟨iV (xs, false), bV s2, tV s3, iV s1, ps⟩ else none := by
  unfold readP
  simp only
  rw [h1, h2, h3, h4, h5, h6]
theorem own_young {W : World} {B e sz n pc : Nat} {PA : Option Addr} {xs : List Value} (h : W.ownsRow B e sz (.slice PA n pc) n xs) : Foot (fun b => B ≤ b) (Sl PA n pc sz xs) W := by
  obtain ⟨A', c', e1, hf⟩ := sl_own h
  injection e1 with e1 e2 e3
  subst e1 e3
  exact hf.mono fun b _ hb => (h.lt b hb.symm).1
theorem sl_pair (w : World) (a b : Value) (t : TypeId) : Sl (some ⟨w.heap.size, 0, none⟩) 1 1 2 [a, b] (w.alloc (.cells #[a, b] t)) := by
  refine ⟨rfl, Nat.le_refl _, fun _ => ⟨_, 0, rfl, fun j u hj => ?_⟩⟩
  rw [Nat.zero_add, blk_cell (blk_new w _)]
  simpa using hj
theorem pair_one (a b : ByteArray) : ∀ u ∈ [Value.string a, Value.string b], u.oneCell' = true := by
  intro u hu
  simp at hu
  rcases hu with rfl | rfl <;> rfl
/-- The reply's box, the reader, and the result's box, in one memory. -/
structure RQ (w : World) (q bx : Nat) (X : Array Value) (s : Sx) (W : World) : Prop where
  res : W.heap[w.heap.size]? = some (.cells #[.int .i64 0, .bool false, .string ⟨#[]⟩, .int .i64 0, .slice none 0 0] 26 (0, 0))
  box : W.heap[bx]? = some (.cells X 26 (0, 0))
  rd : Rs q s W
  kp : Kp All w W
  hq : q = w.heap.size + 1
  hb : q < bx
theorem RQ.read {w W W' : World} {q bx : Nat} {X : Array Value} {s s' : Sx} (h : RQ w q bx X s W) (hr : Rs q s' W') (k : Kp (fun k => k ≠ q) W W') : RQ w q bx X s' W' :=
  ⟨k.heap h.res (show w.heap.size ≠ q by have := h.hq; omega), k.heap h.box (show bx ≠ q by have := h.hb; omega), hr, h.kp.then k (fun i hi _ => by have := h.hq; omega), h.hq, h.hb⟩
theorem RQ.put {w W : World} {q bx : Nat} {X : Array Value} {s : Sx} (h : RQ w q bx X s W) (i : Nat) (u : Value) : RQ w q bx (X.setIfInBounds i u) s (W.setCell ⟨bx, i, none⟩ u) := by
  have k : Kp (fun b => b ≠ bx) W (W.setCell ⟨bx, i, none⟩ u) := (Kp.refl _ _).setOut (fun h => h rfl) _
  have h1 := h.hq; have h2 := h.hb
  exact ⟨k.heap h.res (show w.heap.size ≠ bx by omega), blk_set h.box i u, h.rd.kept k (fun j hj => by omega), h.kp.then k (fun j hj _ => by omega), h.hq, h.hb⟩
theorem RQ.all {w W W' : World} {q bx : Nat} {X : Array Value} {s : Sx} (h : RQ w q bx X s W) (k : Kp All W W') : RQ w q bx X s W' := ⟨k.heap h.res trivial, k.heap h.box trivial, h.rd.all k, h.kp.trans k, h.hq, h.hb⟩
theorem RQ.grown {w W W' : World} {q bx : Nat} {X : Array Value} {s : Sx} {S : Nat → Prop} (h : RQ w q bx X s W) (k : Kp S W W') (hS : ∀ i, i ≤ bx → S i) : RQ w q bx X s W' := by
  have h1 := h.hq; have h2 := h.hb
  exact ⟨k.heap h.res (hS _ (by omega)), k.heap h.box (hS _ (by omega)), h.rd.kept k (fun j hj => hS _ (by omega)), h.kp.then k (fun j hj _ => hS _ (by omega)), h.hq, h.hb⟩
set_option maxRecDepth 100000 in
set_option maxHeartbeats 4000000 in
theorem readreply_any (v : Value) (xs : By) (w : World) (h : Foot All (Rb v xs) w) (hl : xs.length ≤ 1000000000000) :
    Calls Try.prog 43 #[v] w (ReadR xs w) := by
  obtain ⟨A, c, rfl, hcap, hS⟩ := rb_shape h
  have HF := hid h
  have HL := hid hl
  obtain ⟨m, hm⟩ : ∃ m, xs.length = m := ⟨_, rfl⟩
  have HM := hid hm
  rw [hm] at HF hl ⊢
  clear h hS hm
  go_enter Try.func43, Try.ntmps43
  go_wp2_with fail
  have hR0 : Rs (w.heap.size + 1) (xs, false) ((w.alloc (Obj.cells #[.int .i64 0, .bool false, .string ⟨#[]⟩, .int .i64 0, .slice none 0 0] 26)).alloc (Obj.cells #[.slice A m c, .bool false] 86)) := ⟨.slice A m c, by have := blk_new (w.alloc (Obj.cells #[.int .i64 0, .bool false, .string ⟨#[]⟩, .int .i64 0, .slice none 0 0] 26)) (Obj.cells #[.slice A m c, .bool false] 86); rwa [World.size_alloc] at this, (HF.out.mono (T := fun k => k < w.heap.size + 1) (fun k hk _ => by omega)).step (((Kp.al w _).trans (Kp.al _ _)).all), by rw [HM.out]; omega⟩
  have bR : ((w.alloc (Obj.cells #[.int .i64 0, .bool false, .string ⟨#[]⟩, .int .i64 0, .slice none 0 0] 26)).alloc (Obj.cells #[.slice A m c, .bool false] 86)).heap[w.heap.size]? = some (Obj.cells #[.int .i64 0, .bool false, .string ⟨#[]⟩, .int .i64 0, .slice none 0 0] 26) := blk_alloc (blk_new w _) _
  have k0 : Kp All w ((w.alloc (Obj.cells #[.int .i64 0, .bool false, .string ⟨#[]⟩, .int .i64 0, .slice none 0 0] 26)).alloc (Obj.cells #[.slice A m c, .bool false] 86)) := (Kp.al w _).trans (Kp.al _ _)
  have s0 : ((w.alloc (Obj.cells #[.int .i64 0, .bool false, .string ⟨#[]⟩, .int .i64 0, .slice none 0 0] 26)).alloc (Obj.cells #[.slice A m c, .bool false] 86)).heap.size = w.heap.size + 1 + 1 := by simp
  obtain ⟨W0, hW0⟩ : ∃ W0, W0 = (w.alloc (Obj.cells #[.int .i64 0, .bool false, .string ⟨#[]⟩, .int .i64 0, .slice none 0 0] 26)).alloc (Obj.cells #[.slice A m c, .bool false] 86) := ⟨_, rfl⟩
  rw [← hW0] at hR0 bR k0 s0 ⊢
  obtain ⟨q, hq⟩ : ∃ q, q = w.heap.size + 1 := ⟨_, rfl⟩
  rw [← hq] at hR0 ⊢
  have HR0 := hid hR0; have BR0 := hid bR; have K0 := hid k0; have HQ := hid hq; have S0 := hid s0
  clear hR0 bR k0 s0 hW0 hq
  refine (int_s q (xs, false) _ HR0.out).mono ?_
  rintro e w1 ⟨rfl, h1, k1⟩
  obtain ⟨⟨e0, s1⟩, hs1⟩ : ∃ g : Int × Sx, (iV (xs, false), nX (xs, false)) = g := ⟨_, rfl⟩
  injection hs1 with he0 hs1
  rw [hs1] at h1
  rw [he0]
  have E0 := hid he0; have E1 := hid hs1; have H1 := hid h1
  have K1 := hid (K0.out.then k1 (fun i hi _ => by have := HQ.out; omega))
  have BR1 := hid (k1.heap BR0.out (show w.heap.size ≠ q by have := HQ.out; omega))
  have S1 := hid (show q < w1.heap.size from Nat.lt_of_lt_of_le (by have := S0.out; have := HQ.out; omega) k1.size)
  clear h1 k1 he0 hs1
  go_wp2_with fail
  refine (int_s q s1 _ H1.out).mono ?_
  rintro e w2 ⟨rfl, h2, k2⟩
  obtain ⟨⟨e1, s2⟩, hs2⟩ : ∃ g : Int × Sx, (iV s1, nX s1) = g := ⟨_, rfl⟩
  injection hs2 with he1 hs2
  rw [hs2] at h2
  rw [he1]
  have E2 := hid he1; have E3 := hid hs2; have H2 := hid h2
  have K2 := hid (K1.out.then k2 (fun i hi _ => by have := HQ.out; omega))
  have BR2 := hid (k2.heap BR1.out (show w.heap.size ≠ q by have := HQ.out; omega))
  have S2 := hid (show q < w2.heap.size from Nat.lt_of_lt_of_le S1.out k2.size)
  clear h2 k2 he1 hs2
  go_wp2_with fail
  obtain ⟨bx, hbx⟩ : ∃ bx, bx = w2.heap.size := ⟨_, rfl⟩
  have b3 : (w2.alloc (Obj.cells #[.int .i64 e0, .bool false, .string ⟨#[]⟩, .int .i64 e1, .slice none 0 0] 26)).heap[bx]? = some (Obj.cells #[.int .i64 e0, .bool false, .string ⟨#[]⟩, .int .i64 e1, .slice none 0 0] 26) := by rw [hbx]; exact blk_new _ _
  have k3 : Kp All w2 (w2.alloc (Obj.cells #[.int .i64 e0, .bool false, .string ⟨#[]⟩, .int .i64 e1, .slice none 0 0] 26)) := Kp.al _ _
  have hRQ : RQ w q bx #[.int .i64 e0, .bool false, .string ⟨#[]⟩, .int .i64 e1, .slice none 0 0] s2 (w2.alloc (Obj.cells #[.int .i64 e0, .bool false, .string ⟨#[]⟩, .int .i64 e1, .slice none 0 0] 26)) := ⟨k3.heap BR2.out trivial, b3, H2.out.all k3, K2.out.trans k3, HQ.out, by rw [hbx]; exact S2.out⟩
  obtain ⟨W3, hW3⟩ : ∃ W3, W3 = w2.alloc (Obj.cells #[.int .i64 e0, .bool false, .string ⟨#[]⟩, .int .i64 e1, .slice none 0 0] 26) := ⟨_, rfl⟩
  rw [← hbx, ← hW3]
  rw [← hW3] at hRQ
  have R3 := hid hRQ
  clear b3 k3 hW3 hbx hRQ K2 BR2 S2 H2 K1 BR1 S1 H1 HR0 BR0 K0 S0
  refine (bool_s q s2 _ R3.out.rd).mono ?_
  rintro e w4 ⟨rfl, h4, k4⟩
  obtain ⟨⟨e4, s3⟩, hs4⟩ : ∃ g : Bool × Sx, (bV s2, bX s2) = g := ⟨_, rfl⟩
  injection hs4 with he4 hs4
  rw [hs4] at h4
  rw [he4]
  have E4 := hid he4; have E5 := hid hs4
  have R4 := hid (R3.out.read h4 k4)
  have c4 := blk_cell R4.out.box
  have f4 := blk_free R4.out.box
  clear h4 k4 he4 hs4
  go_wp2_with fail
  have R5 := hid (R4.out.put 1 (.bool e4))
  simp only [List.setIfInBounds_toArray, List.set_cons_zero, List.set_cons_succ] at R5
  obtain ⟨W5, hW5⟩ : ∃ W5, W5 = w4.setCell ⟨bx, 1, none⟩ (.bool e4) := ⟨_, rfl⟩
  rw [← hW5] at R5 ⊢
  clear hW5 c4 f4 R4 R3
  refine (text_s q s3 _ R5.out.rd).mono ?_
  rintro e w6 ⟨rfl, h6, k6⟩
  obtain ⟨⟨e6, s4⟩, hs6⟩ : ∃ g : ByteArray × Sx, (tV s3, tX s3) = g := ⟨_, rfl⟩
  injection hs6 with he6 hs6
  rw [hs6] at h6
  rw [he6]
  have E6 := hid he6; have E7 := hid hs6
  have R6 := hid (R5.out.read h6 k6)
  have c6 := blk_cell R6.out.box
  have f6 := blk_free R6.out.box
  clear h6 k6 he6 hs6
  go_wp2_with fail
  have R7 := hid (R6.out.put 2 (.string e6))
  simp only [List.setIfInBounds_toArray, List.set_cons_zero, List.set_cons_succ] at R7
  obtain ⟨W7, hW7⟩ : ∃ W7, W7 = w6.setCell ⟨bx, 2, none⟩ (.string e6) := ⟨_, rfl⟩
  rw [← hW7] at R7 ⊢
  clear hW7 c6 f6 R6 R5
  refine (num_s q s4 _ R7.out.rd).mono ?_
  rintro e w8 ⟨rfl, h8, k8⟩
  have hnl := nV_lt s4
  obtain ⟨⟨nn, s5⟩, hs8⟩ : ∃ g : Nat × Sx, (nV s4, nX s4) = g := ⟨_, rfl⟩
  injection hs8 with he8 hs8
  rw [hs8] at h8
  rw [he8] at hnl ⊢
  have E8 := hid he8; have E9 := hid hs8
  have R8 := hid (R7.out.read h8 k8)
  clear h8 k8 he8 hs8 R7
  obtain ⟨⟨ps, sE⟩, hPP⟩ : ∃ g, pairsP nn s5 [] = g := ⟨_, rfl⟩
  have HPP := hid hPP
  have HRP := hid (readP_of E1.out E3.out E5.out E7.out E9.out (show pairsP (nV s4) s5 [] = (ps, sE) by rw [E8.out]; exact HPP.out))
  rw [E0.out, E4.out, E6.out, E2.out] at HRP
  have HS5 := hid (show s5.1.length ≤ m by
    have a1 := rdX_le xs false (getP xs).2
    have a2 := rdX_le s1.1 s1.2 (getP s1.1).2
    have a3 := rdX_le s2.1 s2.2 (getB s2.1).2
    have a4 := rdX_le s3.1 s3.2 (getT s3.1).2
    have a5 := rdX_le s4.1 s4.2 (getP s4.1).2
    have g1 := E1.out; have g3 := E3.out; have g5 := E5.out; have g7 := E7.out; have g9 := E9.out
    have := HM.out
    unfold nX at g1 g3 g9
    unfold bX at g5
    unfold tX at g7
    simp only at g1
    rw [g1] at a1; rw [g3] at a2; rw [g5] at a3; rw [g7] at a4; rw [g9] at a5
    omega)
  clear hPP
  go_wp2_with fail
  have hw8 := blk_lt R8.out.box
  go_loopw [6, 7] (fun i kk wr => ∃ (j : Nat) (s : Sx) (acc : List (ByteArray × ByteArray)) (PA : Option Addr) (pc : Nat), j ≤ nn ∧ i = .int .u64 j ∧ Hid (pairsP j s acc = (ps, sE)) ∧ Hid (RQ w q bx #[.int .i64 e0, .bool e4, .string e6, .int .i64 e1, .slice PA acc.length pc] s wr) ∧ Hid (wr.ownsRow w8.heap.size 67 2 (.slice PA acc.length pc) acc.length (pcs acc)) ∧ Hid ((s.2 = false → acc.length + s.1.length ≤ m) ∧ acc.length ≤ m + 1) ∧ Hid (w8.heap.size ≤ wr.heap.size)) (fun i _ _ => (intOf i).toNat)
  case atStart => exact ⟨nn, s5, [], none, 0, Nat.le_refl _, rfl, HPP, R8, hid (World.ownsRow_nil _ _ _ _), hid ⟨fun _ => by have := HS5.out; simpa using this, by simp⟩, hid (Nat.le_refl _)⟩
  case round =>
    obtain ⟨j, s, acc, PA, pc, hj, rfl, hpp, hR, hown, hinv, hsz⟩ := hrel
    obtain ⟨rv, hrc, hrf, hrl⟩ := hR.out.rd
    have cq := blk_cell hrc
    have HRL := hid hrl
    clear hrc hrf hrl
    by_cases hgo : 0 < j ∧ s.2 = false
    · obtain ⟨h0, hs⟩ := hgo
      have d0 : decide (0 < (j : Int)) = true := decide_eq_true (by omega)
      rw [hs] at cq
      obtain ⟨j', rfl⟩ : ∃ j', j = j' + 1 := ⟨j - 1, by omega⟩
      go_wp2_with fail
      refine (text_s q s _ hR.out.rd).mono ?_
      rintro e wA ⟨rfl, hA, kA⟩
      obtain ⟨⟨tk, sA⟩, hsA⟩ : ∃ g : ByteArray × Sx, (tV s, tX s) = g := ⟨_, rfl⟩
      injection hsA with heA hsA
      rw [hsA] at hA
      rw [heA]
      have EA := hid heA; have EB := hid hsA
      have RA := hid (hR.out.read hA kA)
      have HqB := hid (show q < w8.heap.size ∧ bx < w8.heap.size from ⟨by have := hR.out.hb; omega, hw8⟩)
      have HOA := hid (own_kept hown.out kA (fun b hb e => by have := (hown.out.lt b hb).1; have := HqB.out.1; omega))
      have HsA := hid (Nat.le_trans hsz.out kA.size)
      have ca := blk_cell RA.out.box
      have fa := blk_free RA.out.box
      have hal : (acc.length + 1) * 32 ≤ 140737488355328 := by have := hinv.out.2; omega
      have HAL := hid hal
      clear hA kA heA hsA cq hal
      go_wp2_with fail
      refine RegionLast.wp_region_end_held (S := fun w' => ∀ i, w'.cell? ⟨bx, i, none⟩ = (#[.int .i64 e0, .bool e4, .string e6, .int .i64 e1, .slice PA acc.length pc] : Array Value)[i]?) (by kernel_rfl) (by kernel_rfl) (fun i => ca i) (fun hHeld => ?_)
      simp only [List.length_cons, List.length_nil, Nat.zero_add, Nat.reduceAdd, Nat.reduceSub, List.take_succ_cons, List.take_zero, List.drop_succ_cons, List.drop_zero]
      (refine wpAnyH_take (i := 0) (oi := _) (v := ?_) (by (simp only [List.getElem?_toArray, List.getElem?_cons_succ, List.getElem?_cons_zero]); rfl) (by kernel_rfl) (by kernel_rfl) (by kernel_rfl) (by exact fun _ _ _ h => h) (Or.inl ⟨by rfl, ?_⟩) (by assumption) ?_; rotate_left; focus ((intro w hSw; (try dsimp only at hSw); go_simp) <;> with_reducible rfl); (try simp only [Act.put, List.getElem_toArray, List.getElem_cons_succ, List.getElem_cons_zero, List.setIfInBounds_toArray, List.set_cons_zero, List.set_cons_succ]))
      (refine wpAnyH_take (i := 1) (oi := _) (v := ?_) (by (simp only [List.getElem?_toArray, List.getElem?_cons_succ, List.getElem?_cons_zero]); rfl) (by kernel_rfl) (by kernel_rfl) (by kernel_rfl) (by exact fun _ _ _ h => h) (Or.inl ⟨by rfl, ?_⟩) (by assumption) ?_; rotate_left; focus ((intro w hSw; (try dsimp only at hSw); go_simp) <;> with_reducible rfl); (try simp only [Act.put, List.getElem_toArray, List.getElem_cons_succ, List.getElem_cons_zero, List.setIfInBounds_toArray, List.set_cons_zero, List.set_cons_succ]))
      (refine wpAnyH_take (i := 2) (oi := _) (v := ?_) (by (simp only [List.getElem?_toArray, List.getElem?_cons_succ, List.getElem?_cons_zero]); rfl) (by kernel_rfl) (by kernel_rfl) (by kernel_rfl) (by exact fun _ _ _ h => h) (Or.inl ⟨by rfl, ?_⟩) (by assumption) ?_; rotate_left; focus ((intro w hSw; (try dsimp only at hSw); go_simp) <;> with_reducible rfl); (try simp only [Act.put, List.getElem_toArray, List.getElem_cons_succ, List.getElem_cons_zero, List.setIfInBounds_toArray, List.set_cons_zero, List.set_cons_succ]))
      (refine wpAnyH_take (i := 3) (oi := _) (v := ?_) (by (simp only [List.getElem?_toArray, List.getElem?_cons_succ, List.getElem?_cons_zero]); rfl) (by kernel_rfl) (by kernel_rfl) (by kernel_rfl) (by exact fun _ _ _ h => h) (Or.inl ⟨by rfl, ?_⟩) (by assumption) ?_; rotate_left; focus ((intro w hSw; (try dsimp only at hSw); go_simp) <;> with_reducible rfl); (try simp only [Act.put, List.getElem_toArray, List.getElem_cons_succ, List.getElem_cons_zero, List.setIfInBounds_toArray, List.set_cons_zero, List.set_cons_succ]))
      (try simp only [Act.put, List.setIfInBounds_toArray, List.set_cons_zero, List.set_cons_succ])
      refine wpAnyH_ready (rs := [4]) (by kernel_rfl) (by simp) ?_
      refine AllReadyH.cons rfl ?_ AllReadyH.nil
      intro KQ hKQ
      refine step_plain rfl ?_
      go_simp
      refine (text_s q sA _ (RA.out.all (Kp.refl All _).drew).rd).mono ?_
      rintro e wB ⟨rfl, hB, kB⟩
      obtain ⟨⟨tv, sB⟩, hsB⟩ : ∃ g : ByteArray × Sx, (tV sA, tX sA) = g := ⟨_, rfl⟩
      injection hsB with heB hsB
      rw [hsB] at hB
      rw [heB]
      have EC := hid heB; have ED := hid hsB
      have RB := hid ((RA.out.all (Kp.refl All _).drew).read hB kB)
      have HOB := hid (own_kept (World.ownsRow.drew HOA.out) kB (fun b hb e => by have := (HOA.out.lt b hb).1; have := HqB.out.1; omega))
      have HsB := hid (Nat.le_trans HsA.out kB.size)
      have cb := blk_cell RB.out.box
      clear hB kB heB hsB ca
      refine hKQ.out _ _ (fun i => cb i) (fun hHeld2 => ?_)
      clear hKQ KQ
      (refine wpAnyH_take (i := 5) (oi := _) (v := ?_) (by (simp only [List.getElem?_toArray, List.getElem?_cons_succ, List.getElem?_cons_zero]); rfl) (by kernel_rfl) (by kernel_rfl) (by kernel_rfl) (by exact fun _ _ _ h => h) (Or.inl ⟨by rfl, ?_⟩) (by assumption) ?_; rotate_left; focus ((intro w hSw; (try dsimp only at hSw); go_simp) <;> with_reducible rfl); (try simp only [Act.put, List.getElem_toArray, List.getElem_cons_succ, List.getElem_cons_zero, List.setIfInBounds_toArray, List.set_cons_zero, List.set_cons_succ]))
      (try simp only [Act.put, List.setIfInBounds_toArray, List.set_cons_zero, List.set_cons_succ])
      refine wpAnyH_ready (rs := [6]) (by kernel_rfl) (by simp) ?_
      refine AllReadyH.cons rfl ?_ AllReadyH.nil
      intro KQ hKQ
      refine step_plain rfl ?_
      go_simp
      have RC := hid (RB.out.all (Kp.al wB (Obj.cells #[.string tk, .string tv] 67)))
      have cc := blk_cell RC.out.box
      refine hKQ.out _ _ (fun i => cc i) (fun hHeld3 => ?_)
      clear hKQ KQ
      (try simp only [Act.put, List.setIfInBounds_toArray, List.set_cons_zero, List.set_cons_succ])
      refine wpAnyH_ready (rs := [7]) (by kernel_rfl) (by simp) ?_
      refine AllReadyH.cons rfl ?_ AllReadyH.nil
      intro KQ hKQ
      refine step_plain rfl (wp_app el67 (HOB.out.alloc (Obj.cells #[.string tk, .string tv] 67)) (A := some ⟨wB.heap.size, 0, none⟩) (m := 1) (c := 1) (news := [.string tk, .string tv]) ?_ ?_ ?_ ?_ _ _ rfl rfl rfl ?_)
      (exact sl_pair wB _ _ _)
      (exact pair_one _ _)
      (exact HAL.out)
      (have := HsB.out; simp; omega)
      intro v' w4 hown4 hg4 hob4 hnil4
      obtain ⟨A4, c4', rfl⟩ := own_shape hown4
      have kG : Kp (fun b => b ≤ bx) (wB.alloc (Obj.cells #[.string tk, .string tv] 67)) w4 := (Kp.grown hg4).mono fun b hb hle e => by have := (HOB.out.lt b e.symm).1; have := HqB.out.2; have hle' : b ≤ bx := hle; omega
      have RD := hid (RC.out.grown kG (fun i hi => hi))
      have HOD := hid hown4
      have HsD := hid (show w8.heap.size ≤ w4.heap.size by have h1 := kG.size; rw [World.size_alloc] at h1; have := HsB.out; omega)
      have cd := blk_cell RD.out.box
      have fd := blk_free RD.out.box
      clear hown4 hg4 hob4 hnil4 kG
      refine hKQ.out _ _ (fun i => cd i) (fun hHeld4 => ?_)
      clear hKQ KQ
      (refine wpAnyH_take (i := 8) (oi := _) (v := ?_) (by (simp only [List.getElem?_toArray, List.getElem?_cons_succ, List.getElem?_cons_zero]); rfl) (by kernel_rfl) (by kernel_rfl) (by kernel_rfl) (by exact fun _ _ _ h => h) (Or.inl ⟨by rfl, ?_⟩) (by assumption) ?_; rotate_left; focus ((intro w hSw; (try dsimp only at hSw); go_simp) <;> with_reducible rfl); (try simp only [Act.put, List.getElem_toArray, List.getElem_cons_succ, List.getElem_cons_zero, List.setIfInBounds_toArray, List.set_cons_zero, List.set_cons_succ]))
      (try simp only [Act.put, List.setIfInBounds_toArray, List.set_cons_zero, List.set_cons_succ])
      refine wpAnyH_done (by kernel_rfl) ?_ _
      unfold RegionLast.LastQ
      dsimp only
      all_goals (go_wp2_with fail)
      have RE := RD.out.put 4 (.slice A4 (acc.length + 1) c4')
      simp only [List.setIfInBounds_toArray, List.set_cons_zero, List.set_cons_succ] at RE
      have hl1 : (acc ++ [(tk, tv)]).length = acc.length + 1 := by simp
      have hpc : pcs (acc ++ [(tk, tv)]) = pcs acc ++ [.string tk, .string tv] := by simp [pcs]
      have kS : Kp (fun b => b ≠ bx) w4 (w4.setCell ⟨bx, 4, none⟩ (.slice A4 (acc.length + 1) c4')) := (Kp.refl _ _).setOut (by simp) _
      have HOE := own_kept HOD.out kS (fun b hb e => by have := (HOD.out.lt b hb).1; have := HqB.out.2; omega)
      refine ⟨⟨j', sB, acc ++ [(tk, tv)], A4, c4', by omega, by go_num, ?_, ?_, ?_, ?_, ?_⟩, by simp [intOf]⟩
      · have := hpp.out
        rw [pairsP, if_neg (by simp [hs]), EA.out, EB.out, EC.out, ED.out] at this
        exact this
      · rw [hl1]; exact RE
      · rw [hl1, hpc]; exact HOE
      · have hi := hinv.out
        have h1 := hi.1 hs
        refine ⟨fun hsb => ?_, by rw [hl1]; omega⟩
        rw [hl1]
        have hA2 : sA.2 = false := by
          cases h2 : sA.2 with
          | false => rfl
          | true =>
            have h3 := ED.out
            unfold tX at h3
            have := rdX_wrong sA.1 sA.2 (getT sA.1).2 h2
            rw [h3, hsb] at this
            cases this
        have l1 := tX_len s
        rw [EB.out] at l1
        have l2 := tX_len sA
        rw [ED.out] at l2
        rcases l1 with l1 | l1
        · rw [hA2] at l1; cases l1
        · rcases l2 with l2 | l2
          · rw [hsb] at l2; cases l2
          · omega
      · exact hid (by have := HsD.out; simpa using this)
    · have hfin : acc = ps ∧ s = sE := by
        have h := hpp.out
        cases j with
        | zero => rw [pairsP] at h; injection h with h1 h2; exact ⟨h1, h2⟩
        | succ j =>
          have hs : s.2 = true := by
            cases h2 : s.2 with
            | true => rfl
            | false => exact absurd ⟨by omega, h2⟩ hgo
          rw [pairsP, if_pos hs] at h
          injection h with h1 h2; exact ⟨h1, h2⟩
      obtain ⟨rfl, rfl⟩ := hfin
      have hcase : j = 0 ∨ (0 < j ∧ s.2 = true) := by
        by_cases h : j = 0
        · exact .inl h
        · refine .inr ⟨by omega, ?_⟩
          cases h2 : s.2 with
          | true => rfl
          | false => exact absurd ⟨by omega, h2⟩ hgo
      clear hgo
      refine or2 hcase ?cA ?cB
      case' cA =>
        intro hj0
        have d0 : decide (0 < (j : Int)) = false := decide_eq_false (by omega)
        go_wp2_with fail
      case' cB =>
        rintro ⟨h0, hs⟩
        have d0 : decide (0 < (j : Int)) = true := decide_eq_true (by omega)
        rw [hs] at cq
        go_wp2_with fail
      all_goals (
        refine (rend_any q s.1 s.2 _ hR.out.rd).mono ?_
        rintro e wE ⟨rfl, rfl⟩
        obtain ⟨fb, hfb⟩ : ∃ fb, endP s = fb := ⟨_, rfl⟩
        have hfb' : (!s.2 && s.1.length == 0) = fb := hfb
        rw [hfb']
        have HFB := hid hfb
        have cr := blk_cell hR.out.res
        have fr := blk_free hR.out.res
        have cb := blk_cell hR.out.box
        have hwl : w.heap.size < wE.heap.size := blk_lt hR.out.res
        have hkF : ∀ (u1 u2 u3 u4 u5 : Value), Kp All w (((((wE.setCell ⟨w.heap.size, 0, none⟩ u1).setCell ⟨w.heap.size, 1, none⟩ u2).setCell ⟨w.heap.size, 2, none⟩ u3).setCell ⟨w.heap.size, 3, none⟩ u4).setCell ⟨w.heap.size, 4, none⟩ u5) := fun u1 u2 u3 u4 u5 => ((((hR.out.kp.setNew (Nat.le_refl _) _).setNew (Nat.le_refl _) _).setNew (Nat.le_refl _) _).setNew (Nat.le_refl _) _).setNew (Nat.le_refl _) _
        have HKF := hid hkF
        clear hfb hfb' hkF
        cases fb with
        | true =>
          have HN : Hid (readP xs = some ⟨e0, e4, e6, e1, acc⟩) := hid (by rw [HRP.out, HFB.out]; rfl)
          go_wp2_with fail
          refine bodyPost_ret (v := .tuple #[RV ⟨e0, e4, e6, e1, acc⟩ PA pc, .int .i64 0]) (by simp [results, Try.results43, go_sem, cr, fr]) rfl ?_
          have hB : w.heap.size < w8.heap.size := by have := hw8; have h1 := hR.out.hq; have h2 := hR.out.hb; omega
          have hps := own_young hown.out
          have kS : Kp (fun b => w8.heap.size ≤ b) wE (((((wE.setCell ⟨w.heap.size, 0, none⟩ (.int .i64 e0)).setCell ⟨w.heap.size, 1, none⟩ (.bool e4)).setCell ⟨w.heap.size, 2, none⟩ (.string e6)).setCell ⟨w.heap.size, 3, none⟩ (.int .i64 e1)).setCell ⟨w.heap.size, 4, none⟩ (.slice PA acc.length pc)) := (((((Kp.refl _ _).setOut (by omega) _).setOut (by omega) _).setOut (by omega) _).setOut (by omega) _).setOut (by omega) _
          exact ⟨.inl ⟨_, PA, pc, HN.out, rfl, (hps.step kS).mono (fun b _ hb => by have h : w8.heap.size ≤ b := hb; omega), by show acc.length ≤ _; have := hinv.out.2; have := HM.out; omega⟩, HKF.out _ _ _ _ _⟩
        | false =>
          have HN : Hid (readP xs = none) := hid (by rw [HRP.out, HFB.out]; rfl)
          go_wp2_with fail
          refine bodyPost_ret (v := .tuple #[RV .z none 0, .int .i64 8]) (by simp [results, Try.results43, go_sem, cr, fr, RD.z]) rfl ⟨.inr ⟨HN.out, rfl⟩, ?_⟩
          exact HKF.out _ _ _ _ _)
end Go.Proofs.Ytkipijdbkkcioaa
