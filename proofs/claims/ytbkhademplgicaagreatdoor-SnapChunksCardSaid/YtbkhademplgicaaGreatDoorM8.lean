/- slices.Chunk over a row of bytes: what it hands to its loop's rounds: walked once. No condition but that the rounds keep its two boxes. slices.Chunk's closure: for every loop that keeps the two boxes. Plain: a snapshot in parts: its parts lead back to it; cut, or with a byte of the first part turned, they are none. No condition but that its numbers are ints and it is good. A snapshot's frames as an iterator: what it hands to the collecting loop. -/
import Derived.Test.YtbkhademplgicaaGreatDoorM7
import Derived.RangeFuncNested
import Derived.RangeFuncBound
import Derived.RangeFuncCalls
import Derived.RangeFuncBox
import Derived.RangeFuncLeaves
import Derived.RangeFuncOne
import Derived.Shelf.Abstract
import Derived.OwnWalkIn
import Derived.TacticsInMore
import Derived.LoopNIn
import Derived.LoopIn
import Derived.BigRegionIn
import Derived.Test.YtbkhademplgicaaGreatDoorM3
set_option linter.unusedVariables false
set_option linter.unusedSimpArgs false
namespace Go.Proofs.YtbkhademplgicaaGreatDoor
open Go.RowKit Go.Shelf
set_option linter.unusedVariables false
set_option linter.unusedSimpArgs false
attribute [local go_sem] Oper.semAt_some
/-! ### What a round of the collecting loop keeps -/
/-- The collecting loop's own blocks: its box B, and the row that the box holds. -/
def Pv (B : Nat) (W : World) (b : Nat) : Prop := b = B ∨ ∃ (A : Addr) (n c : Nat) (t : TypeId) (fz : Nat × Nat), W.heap[B]? = some (.cells #[.slice (some A) n c] t fz) ∧ A.block = b
structure Rk (B : Nat) (W W' : World) : Prop where
  os : W'.os = W.os
  tape : W'.tape = W.tape
  output : W'.output = W.output
  size : W.heap.size ≤ W'.heap.size
  same : ∀ b o, W.heap[b]? = some o → o.isCells = true → ¬ Pv B W b → W'.heap[b]? = some o
  priv : ∀ b, b < W.heap.size → Pv B W' b → Pv B W b
theorem Rk.refl (B : Nat) (W : World) : Rk B W W := ⟨rfl, rfl, rfl, Nat.le_refl _, fun _ _ h _ _ => h, fun _ _ h => h⟩
theorem Rk.trans {B : Nat} {X Y Z : World} (h : Rk B X Y) (k : Rk B Y Z) : Rk B X Z :=
  ⟨k.os.trans h.os, k.tape.trans h.tape, k.output.trans h.output, Nat.le_trans h.size k.size,
    fun b o hb hc hp => k.same b o (h.same b o hb hc hp) hc (fun e => hp (h.priv b (Array.getElem?_eq_some_iff.1 hb).1 e)),
    fun b hb e => h.priv b hb (k.priv b (Nat.lt_of_lt_of_le hb h.size) e)⟩
theorem Pv.same {B : Nat} {W W' : World} (h : W'.heap[B]? = W.heap[B]?) (b : Nat) : Pv B W' b ↔ Pv B W b := by
  unfold Pv
  rw [h]
theorem Rk.of_kp {B : Nat} {W W' : World} (hB : B < W.heap.size) (k : Kp All W W') : Rk B W W' :=
  ⟨k.os, k.tape, k.output, k.size, fun b o hb _ _ => (k.block b (Array.getElem?_eq_some_iff.1 hb).1 trivial).trans hb, fun b _ e => (Pv.same (k.block B hB trivial) b).1 e⟩
theorem Rk.putObj {B : Nat} {W : World} {l : Nat} {o o' : Obj} (hB : B < l) (h : W.heap[l]? = some o) (hc : o.isCells = false) : Rk B W (W.putObj l o') := by
  refine ⟨rfl, rfl, rfl, ?_, fun b u hb hu hp => ?_, fun b _ e => ?_⟩
  · exact (grownBy_putObj' W l o').size
  · have : b ≠ l := by rintro rfl; rw [h] at hb; injection hb with hb; subst hb; rw [hc] at hu; cases hu
    rw [World.putObj_heap_other this]; exact hb
  · exact (Pv.same (by rw [World.putObj_heap_other (by omega)]) b).1 e
/-! ### The chunks -/
def clen (n k : Nat) : Nat := min 4096 (n - 4096 * k)
def chV (g o n k : Nat) : Value := .slice (some ⟨g, o + 4096 * k, none⟩) (clen n k) (clen n k)
theorem chunk_any (A : Option Addr) (n c : Nat) (w : World) :
    Calls Tryz.prog 79 #[.slice A n c, .int .i64 4096] w fun e w' => e = .returned (.func (.func 121) #[] #[.pointer (some ⟨w.heap.size, 0, none⟩), .pointer (some ⟨w.heap.size + 1, 0, none⟩)]) ∧
      w' = (w.alloc (.cells #[.slice A n c] 25)).alloc (.cells #[.int .i64 4096] 3) := by
  go_enter Tryz.func79, Tryz.ntmps79
  go_wp2_with fail
  go_ret
  exact ⟨rfl, rfl⟩
end Go.Proofs.YtbkhademplgicaaGreatDoor

namespace Go.Proofs.YtbkhademplgicaaGreatDoor
open Go.RowKit Go.Shelf
set_option linter.unusedVariables false
set_option linter.unusedSimpArgs false
attribute [local go_sem] Oper.semAt_some
theorem Rk.of_kp_drew {B : Nat} {w w' : World} (h : Rk B w.drew w') : Rk B w w' := ⟨h.os, h.tape, h.output, h.size, h.same, h.priv⟩
set_option maxRecDepth 100000 in
set_option maxHeartbeats 2000000 in
theorem chunk1_in (n : Nat) (hn : 1 ≤ n) (l B B1 B2 g o m c : Nat) (hmc : m ≤ c) (hm : m ≤ 2000000) (J Jx : List Nat → World → Prop)
    (hY : ∀ pre x W, J pre W → pre.length < (m + 4095) / 4096 → YieldAt Fence.wide (n - 1) Tryz.prog l #[chV g o m x] W fun e W' =>
      (e = .returned (.bool true) ∧ J (pre ++ [x]) W' ∧ Rk B W W') ∨ (e = .returned (.bool false) ∧ Jx (pre ++ [x]) W'))
    (W : World) (h1 : W.heap[B1]? = some (.cells #[.slice (some ⟨g, o, none⟩) m c] 25 (0, 0))) (h2 : W.heap[B2]? = some (.cells #[.int .i64 4096] 3 (0, 0))) (p1 : ¬ Pv B W B1) (p2 : ¬ Pv B W B2) (hJ : AbidesFrom W.heap.size J) (h0 : J [] W) :
    CallsIn Fence.wide n Tryz.prog 121 #[.func (.yield l) #[] #[], .pointer (some ⟨B1, 0, none⟩), .pointer (some ⟨B2, 0, none⟩)] W fun e W' => (∃ v, e = .returned v) ∧
      ((∃ ys, ys = List.range ((m + 4095) / 4096) ∧ J ys W') ∨ (∃ pre, True ∧ Jx pre W')) := by
  refine callsIn_of_wp Tryz.func121 rfl trivial ?_ rfl
  simp only [Tryz.ntmps121, List.size_toArray, List.length_cons, List.length_nil, Nat.reduceAdd, Nat.reduceSub, Array.replicate_succ, Array.replicate_zero, List.push_toArray, List.append_toArray, List.nil_append, List.cons_append]
  gi_wp2
  gi_loopw [4] (fun i wr => ∃ k j : Nat, k ≤ (m + 4095) / 4096 ∧ i = .int .i64 j ∧ Hid (j = 4096 * k) ∧ J (List.range k) wr ∧ Rk B W wr)
    (fun i _ => (m + 4096) - (intOf i).toNat)
  case atStart => exact ⟨0, 0, Nat.zero_le _, rfl, hid rfl, h0, Rk.refl _ _⟩
  case round =>
    obtain ⟨k, j, hk, rfl, HJ, hJs, hnx⟩ := hrel
    have hb1 := blk_cell (hnx.same _ _ h1 rfl p1)
    have hb2 := blk_cell (hnx.same _ _ h2 rfl p2)
    have HN := hid hnx
    clear hnx
    by_cases hlt : j < m
    · have hkl : k < (m + 4095) / 4096 := by have := HJ.out; omega
      have hJd : J (List.range k) wr.drew := hJ _ _ _ none hJs ⟨rfl, rfl, rfl, Nat.le_refl _, fun _ _ _ => rfl⟩ (fun r e => by cases e)
      obtain ⟨fn, tmps, assign, body, hy, hR⟩ := hY _ k wr.drew hJd (by rw [List.length_range]; exact hkl)
      obtain ⟨E, hE⟩ : ∃ E, clen m k = E := ⟨_, rfl⟩
      have hE1 : E = min 4096 (m - j) := by rw [← hE, HJ.out]; rfl
      have hEi : min (4096 : Int) ((m - j : Nat) : Int) = (E : Int) := by rw [hE1]; omega
      have hE2 : j + E ≤ m := by omega
      have hE0 : 0 < E := by omega
      have hE00 : ¬ E = 0 := by omega
      have ec : chV g o m k = .slice (some ⟨g, o + j, none⟩) E E := by rw [chV, hE, HJ.out]
      have HNX := hid (show j + 4096 = 4096 * (k + 1) by have := HJ.out; omega)
      have HL := hid (show E < 4096 → m ≤ j + 4096 by omega)
      clear hE hE1
      rw [ec] at hy
      clear ec
      have d1 : decide ((j : Int) < (m : Int)) = true := decide_eq_true (by omega)
      gi_wp2
      gi_region
      clear hEi
      have hE3 : j + E ≤ c := by omega
      gi_wp2
      refine hR.mono ?_
      rintro e W3 (⟨rfl, hJ3, hk3⟩ | ⟨rfl, hJx3⟩)
      · have hb3 := blk_cell ((HN.out.trans (Rk.of_kp_drew hk3)).same _ _ h2 rfl p2)
        gi_wp2
        go_roundw
        case rel => exact ⟨k + 1, j + 4096, by omega, by simp, HNX, by rw [List.range_succ]; exact hJ3, HN.out.trans (Rk.of_kp_drew hk3)⟩
        case measure => simp [intOf]; omega
      · gi_wp2
        refine bodyPost_ret (results_none rfl _ _ _) rfl ?_
        exact ⟨⟨_, rfl⟩, .inr ⟨_, trivial, hJx3⟩⟩
    · have d1 : decide ((j : Int) < (m : Int)) = false := decide_eq_false (by omega)
      obtain rfl : k = (m + 4095) / 4096 := by have := HJ.out; omega
      gi_wp2
      go_end0
      exact ⟨⟨_, rfl⟩, .inl ⟨_, rfl, hJs⟩⟩
theorem chunk_stops (n : Nat) (hn : 1 ≤ n) (B B1 B2 g o m c : Nat) (hmc : m ≤ c) (hm : m ≤ 2000000) (w : World) (hB : B < w.heap.size) (h1 : w.heap[B1]? = some (.cells #[.slice (some ⟨g, o, none⟩) m c] 25 (0, 0))) (h2 : w.heap[B2]? = some (.cells #[.int .i64 4096] 3 (0, 0)))
    (p1 : ¬ Pv B w B1) (p2 : ¬ Pv B w B2) :
    SeqStopsK Fence.wide n Tryz.prog 121 #[.pointer (some ⟨B1, 0, none⟩), .pointer (some ⟨B2, 0, none⟩)] (fun k : Nat => #[chV g o m k]) (Rk B) (fun ys => ys = List.range ((m + 4095) / 4096)) (fun _ => True) ((m + 4095) / 4096) w := fun l J Jx W hW hJ hJx hY h0 =>
  chunk1_in n hn l B B1 B2 g o m c hmc hm J Jx hY W ((hW.block _ (blk_lt h1)).trans h1) ((hW.block _ (blk_lt h2)).trans h2) (fun e => p1 ((Pv.same (hW.block B hB) _).1 e)) (fun e => p2 ((Pv.same (hW.block B hB) _).1 e)) hJ h0
theorem rk_grown {B K : Nat} {X Y : World} {row : Option Nat} (hB : B < K) (hX : B < X.heap.size) (hg : X.grownBy Y row) (hr : ∀ r, row = some r → K ≤ r ∧ ∃ o : Obj, X.heap[r]? = some o ∧ o.isCells = false) : Rk B X Y := by
  have hBs : Y.heap[B]? = X.heap[B]? := hg.block B hX (fun e => by have := (hr B e.symm).1; omega)
  refine ⟨hg.os, hg.tape, hg.output, hg.size, fun b o hb hc _ => ?_, fun b _ e => (Pv.same hBs b).1 e⟩
  refine (hg.block b (Array.getElem?_eq_some_iff.1 hb).1 (fun e => ?_)).trans hb
  obtain ⟨_, o', ho', hc'⟩ := hr b e.symm
  rw [hb] at ho'
  injection ho' with ho'
  subst ho'
  rw [hc] at hc'; cases hc'
end Go.Proofs.YtbkhademplgicaaGreatDoor

namespace Go.Proofs.YtbkhademplgicaaGreatDoor
open Go.RowKit
set_option linter.unusedVariables false
set_option linter.unusedSimpArgs false
def headB (s : Sn) : By := encZg s.index ++ (encZg s.term ++ (enc (encSnap s).length ++ enc (crcB (encSnap s))))
def parts4 : Nat → By → List By
  | 0, _ => []
  | n + 1, b => if b.length = 0 then [] else b.take 4096 :: parts4 n (b.drop 4096)
def partsB (s : Sn) : List By := parts4 (encSnap s).length (encSnap s)
def chunksB (s : Sn) : List By := frameB (headB s) :: (partsB s).map frameB
def wholeB (s : Sn) : By := (chunksB s).flatten
theorem parts4_flat (n : Nat) (b : By) (h : b.length ≤ n) : (parts4 n b).flatten = b := by
  induction n generalizing b with
  | zero =>
    obtain rfl : b = [] := List.eq_nil_of_length_eq_zero (by omega)
    rfl
  | succ n ih =>
    rw [parts4]
    split
    · next h0 =>
      obtain rfl : b = [] := List.eq_nil_of_length_eq_zero h0
      rfl
    · next h0 =>
      rw [List.flatten_cons, ih _ (by rw [List.length_drop]; omega), List.take_append_drop]
theorem parts4_count (n : Nat) (a b : By) (h : a.length = b.length) : (parts4 n a).length = (parts4 n b).length := by
  induction n generalizing a b with
  | zero => rfl
  | succ n ih =>
    rw [parts4, parts4, h]
    split
    · rfl
    · rw [List.length_cons, List.length_cons, ih (a.drop 4096) (b.drop 4096) (by rw [List.length_drop, List.length_drop, h])]
theorem parts4_le (n : Nat) (b : By) : ∀ c ∈ parts4 n b, c.length ≤ 4096 ∧ 0 < c.length := by
  induction n generalizing b with
  | zero => intro c hc; cases hc
  | succ n ih =>
    intro c hc
    rw [parts4] at hc
    split at hc
    · cases hc
    · next h0 =>
      rcases List.mem_cons.1 hc with rfl | hc
      · rw [List.length_take]; omega
      · exact ih _ c hc
theorem frames_len (cs : List By) : ((cs.map frameB).flatten).length = cs.flatten.length + 8 * cs.length := by
  induction cs with
  | nil => rfl
  | cons c cs ih =>
    rw [List.map_cons, List.flatten_cons, List.length_append, ih, frameB_len, List.flatten_cons, List.length_append, List.length_cons]
    omega
theorem whole_len (s : Sn) : (wholeB s).length = (headB s).length + 8 + ((encSnap s).length + 8 * (partsB s).length) := by
  rw [wholeB, chunksB, List.flatten_cons, List.length_append, frameB_len, frames_len, partsB, parts4_flat _ _ (Nat.le_refl _)]
theorem headB_len (s : Sn) : (headB s).length ≤ 36 := by
  have h1 := enc_len_le (zig s.index); have h2 := enc_len_le (zig s.term); have h3 := enc_len_le (encSnap s).length; have h4 := enc_len_le (crcB (encSnap s))
  simp only [headB, List.length_append, encZg]; omega
/-! ### The way back -/
def joinL : Nat → By → Bool → By → Option By
  | 0, _, _, _ => none
  | n + 1, r, first, d => if r.length = 0 then some d else if (unfP r).2.2 ≠ 0 then none else joinL n (r.drop (unfP r).2.1) false (if first then d else d ++ (unfP r).1)
/-- What Join makes of bytes. -/
def joinP (b : By) : Option Sn := match joinL (b.length + 1) b true [] with
  | none => none
  | some d => match readSnapP d with
    | none => none
    | some s => if wholeB s = b then some s else none
theorem joinL_frames (cs : List By) : ∀ (n : Nat) (d : By), (∀ c ∈ cs, c.length ≤ 1048576) → cs.length < n → joinL n ((cs.map frameB).flatten) false d = some (d ++ cs.flatten) := by
  induction cs with
  | nil =>
    intro n d _ hn
    obtain ⟨n, rfl⟩ : ∃ m, n = m + 1 := ⟨n - 1, by simp at hn; omega⟩
    rw [joinL]; simp
  | cons c cs ih =>
    intro n d hc hn
    obtain ⟨n, rfl⟩ : ∃ m, n = m + 1 := ⟨n - 1, by simp at hn; omega⟩
    have hu := unfP_frame (hc c (List.mem_cons_self ..)) ((cs.map frameB).flatten)
    rw [joinL, List.map_cons, List.flatten_cons, hu]
    simp only
    rw [if_neg (by rw [List.length_append, frameB_len]; omega), if_neg (by simp)]
    rw [List.drop_left' (frameB_len c), ih n _ (fun x hx => hc x (List.mem_cons_of_mem _ hx)) (by simp at hn; omega)]
    simp
theorem readSnapP_some {d : By} {s : Sn} (h : readSnapP d = some s) : goodSnap s = true ∧ s = (snapR (d, false)).1 := by
  unfold readSnapP at h
  split at h
  · next hg =>
    injection h with h
    simp only [Bool.and_eq_true] at hg
    exact ⟨by rw [← h]; exact hg.2, h.symm⟩
  · cases h
theorem joinP_whole {s : Sn} (hs : SnI s) (hg : goodSnap s = true) : joinP (wholeB s) = some s := by
  have hl := headB_len s
  have hw := whole_len s
  have hu := unfP_frame (b := headB s) (by omega) (((partsB s).map frameB).flatten)
  have hw0 : wholeB s = frameB (headB s) ++ ((partsB s).map frameB).flatten := by rw [wholeB, chunksB, List.flatten_cons]
  have hj : joinL ((wholeB s).length + 1) (wholeB s) true [] = some (encSnap s) := by
    rw [joinL, if_neg (by omega)]
    rw [hw0, hu]
    simp only
    rw [if_neg (by simp), List.drop_left' (frameB_len _), joinL_frames _ _ _ (fun c hc => by have := (parts4_le _ _ c hc).1; omega) (by rw [← hw0]; omega)]
    rw [partsB, parts4_flat _ _ (Nat.le_refl _)]
    simp
  unfold joinP
  rw [hj]
  simp only
  rw [readSnapP_enc hs hg]
  simp
theorem joinP_some {b : By} {s : Sn} (h : joinP b = some s) : goodSnap s = true ∧ SnI s ∧ wholeB s = b := by
  unfold joinP at h
  split at h
  · cases h
  next d hd =>
  split at h
  · cases h
  next s' hs' =>
  split at h
  · next hw =>
    injection h with h
    subst h
    obtain ⟨h1, h2⟩ := readSnapP_some hs'
    refine ⟨h1, ?_, hw⟩
    rw [h2]
    exact snapR_int _
  · cases h
theorem enc_inj {u v : Nat} {r r' : By} (hu : u < 2 ^ 64) (hv : v < 2 ^ 64) (h : enc u ++ r = enc v ++ r') : u = v ∧ r = r' := by
  have h1 := getP_enc u hu r
  have h2 := getP_enc v hv r'
  rw [h, h2] at h1
  injection h1 with h1 _
  subst h1
  exact ⟨rfl, List.append_cancel_left h⟩
theorem encSnap_len {s : Sn} (hg : goodSnap s = true) : (encSnap s).length ≤ 2000000 := by
  obtain ⟨h1, h2, h3⟩ := goodSnap_lens hg
  have key : ∀ l : List Int, (l.flatMap encZg).length ≤ 9 * l.length := by
    intro l
    induction l with
    | nil => simp
    | cons x l ih =>
      have := enc_len_le (zig x)
      rw [List.flatMap_cons, List.length_append, List.length_cons, encZg]; omega
  have k1 := key s.V; have k2 := key s.L
  have a1 := enc_len_le (zig s.index); have a2 := enc_len_le (zig s.term)
  have a3 := enc_len_le s.V.length; have a4 := enc_len_le s.L.length
  have a5 := encText_len (strOfB s.data)
  have e5 : (strOfB s.data).size = s.data.length := by simp [strOfB, ByteArray.size]
  simp only [encSnap, encConf, encList, List.length_append, encZg] at *
  omega
theorem head_inj {s t : Sn} (hs : SnI s) (ht : SnI t) (gs : goodSnap s = true) (gt : goodSnap t = true) (h : headB s = headB t) : (encSnap s).length = (encSnap t).length := by
  have l1 := encSnap_len gs; have l2 := encSnap_len gt
  obtain ⟨_, h⟩ := enc_inj (zig_lt _ hs.i1.1 hs.i1.2) (zig_lt _ ht.i1.1 ht.i1.2) h
  obtain ⟨_, h⟩ := enc_inj (zig_lt _ hs.i2.1 hs.i2.2) (zig_lt _ ht.i2.1 ht.i2.2) h
  exact (enc_inj (by omega) (by omega) h).1
theorem unf_whole (s : Sn) (r : By) : unfP (wholeB s ++ r) = (headB s, (headB s).length + 8, 0) := by
  have hl := headB_len s
  rw [wholeB, chunksB, List.flatten_cons, List.append_assoc]
  exact unfP_frame (by omega) _
theorem joinP_cut {s : Sn} (hs : SnI s) (hg : goodSnap s = true) {k : Nat} (hk : k < (wholeB s).length) : joinP ((wholeB s).take k) = none := by
  cases hj : joinP ((wholeB s).take k) with
  | none => rfl
  | some t =>
    obtain ⟨gt, it, hw⟩ := joinP_some hj
    exfalso
    have hsplit : wholeB s = wholeB t ++ (wholeB s).drop k := by rw [hw, List.take_append_drop]
    have h1 := unf_whole s []
    rw [List.append_nil, hsplit, unf_whole t] at h1
    injection h1 with h1 _
    have hl := head_inj it hs gt hg h1
    have e1 := whole_len s; have e2 := whole_len t
    have e3 : (partsB t).length = (partsB s).length := by unfold partsB; rw [hl]; exact parts4_count _ _ _ hl
    have e4 := congrArg List.length hw
    rw [List.length_take] at e4
    rw [h1] at e2
    omega
theorem joinP_turned {s : Sn} (hg : goodSnap s = true) {p : Nat} {y : UInt8} (h4 : 4 ≤ p) (hp : p < (headB s).length + 8) (hy : (wholeB s)[p]? ≠ some y) : joinP ((wholeB s).set p y) = none := by
  cases hj : joinP ((wholeB s).set p y) with
  | none => rfl
  | some t =>
    obtain ⟨gt, it, hw⟩ := joinP_some hj
    exfalso
    have hw0 : ∀ s, wholeB s = frameB (headB s) ++ ((partsB s).map frameB).flatten := fun s => by rw [wholeB, chunksB, List.flatten_cons]
    have hln := whole_len s
    -- the lengths of the two first parts
    have hlen : (headB t).length = (headB s).length := by
      have h1 := congrArg (fun b => of ((b.drop 1).take 3)) hw
      have key : ∀ s : Sn, of (((wholeB s).drop 1).take 3) = (headB s).length := by
        intro s
        have hl := headB_len s
        have e0 : wholeB s = 197 :: (le (headB s).length 3 ++ (headB s ++ (le (crcB (frHead (headB s))) 4 ++ ((partsB s).map frameB).flatten))) := by rw [hw0]; simp [frameB, frHead]
        rw [e0, List.drop_succ_cons, List.drop_zero, List.take_left' (le_len _ _), of_le _ _ (by omega)]
      rw [key t] at h1
      rw [h1, List.drop_set, if_neg (by omega), List.take_set_of_le (by omega)]
      exact key s
    have hf : frameB (headB t) = (frameB (headB s)).set p y := by
      have h1 := congrArg (List.take ((headB s).length + 8)) hw
      rw [hw0 t, List.take_left' (by rw [frameB_len, hlen]), List.take_set] at h1
      rw [h1, hw0 s, List.take_left' (frameB_len _)]
    have hpf : p < (frameB (headB s)).length := by rw [frameB_len]; exact hp
    have hold : (frameB (headB s))[p]? ≠ some y := by
      intro e
      apply hy
      rw [hw0 s, List.getElem?_append_left hpf]
      exact e
    have hfl := frHead_len (headB s)
    by_cases hc : p < (headB s).length + 4
    · have h1 : frHead (headB t) = (frHead (headB s)).set p y := by
        have := congrArg (List.take ((headB s).length + 4)) hf
        rw [frameB, frameB, List.take_left' (by rw [frHead_len, hlen]), List.take_set, List.take_left' hfl] at this
        exact this
      have h2 : le (crcB (frHead (headB t))) 4 = le (crcB (frHead (headB s))) 4 := by
        have := congrArg (List.drop ((headB s).length + 4)) hf
        rw [frameB, frameB, List.drop_left' (by rw [frHead_len, hlen]), List.drop_set, if_pos (by omega), List.drop_left' hfl] at this
        exact this
      have h3 := congrArg of h2
      rw [of_le _ _ (by have := crcB_lt (frHead (headB t)); omega), of_le _ _ (by have := crcB_lt (frHead (headB s)); omega), h1] at h3
      have hpl : p < (frHead (headB s)).length := by omega
      refine crcB_set hpl (fun e => hold ?_) h3
      rw [frameB, List.getElem?_append_left hpl, List.getElem?_eq_getElem hpl, e]
    · have h1 : frHead (headB t) = frHead (headB s) := by
        have := congrArg (List.take ((headB s).length + 4)) hf
        rw [frameB, frameB, List.take_left' (by rw [frHead_len, hlen]), List.take_set_of_le (by omega), List.take_left' hfl] at this
        exact this
      have h2 : frameB (headB t) = frameB (headB s) := by rw [frameB, frameB, h1]
      rw [h2] at hf
      apply hold
      rw [hf, List.getElem?_set_self hpf]
end Go.Proofs.YtbkhademplgicaaGreatDoor

namespace Go.Proofs.YtbkhademplgicaaGreatDoor
open Go.RowKit Go.Shelf
set_option linter.unusedVariables false
set_option linter.unusedSimpArgs false
abbrev Hd := Option Addr × Nat × Nat
def hdV (x : Hd) : Value := .slice x.1 x.2.1 x.2.2
/-- The header x stands for a row of its own (beyond base) of bytes l, and is none of the collecting loop's blocks. -/
def FrA (B base : Nat) (x : Hd) (l : By) (W : World) : Prop := W.ownsRow base 5 1 (hdV x) l.length (u8s l) ∧ ∀ A, x.1 = some A → ¬ Pv B W A.block
def FrOk (B base : Nat) (xs : List Hd) (ls : List By) (W : World) : Prop := xs.length = ls.length ∧ ∀ (i : Nat) x l, xs[i]? = some x → ls[i]? = some l → FrA B base x l W
theorem FrA.rk {B base : Nat} {x : Hd} {l : By} {W W' : World} (h : FrA B base x l W) (k : Rk B W W') : FrA B base x l W' := by
  obtain ⟨⟨h1, h2⟩, h3⟩ := h
  have h2' := h2
  refine ⟨⟨h1, ?_⟩, fun A e hp => ?_⟩
  · rcases h2 with hn | ⟨gb, cap, cur, e, hbase, hgb, rest⟩
    · exact .inl hn
    · refine .inr ⟨gb, cap, cur, e, hbase, k.same _ _ hgb rfl ?_, rest⟩
      unfold hdV at e
      injection e with e1 _ _
      have := h3 _ e1
      exact this
  · rcases h2 with hn | ⟨gb, cap, cur, e', hbase, hgb, rest⟩
    · have := hn.1
      unfold hdV at this
      injection this with e1 _ _
      rw [e] at e1; cases e1
    · unfold hdV at e'
      injection e' with e1 _ _
      rw [e] at e1
      injection e1 with e1
      subst e1
      exact h3 _ e (k.priv _ (Array.getElem?_eq_some_iff.1 hgb).1 hp)
theorem FrOk.rk {B base : Nat} {xs : List Hd} {ls : List By} {W W' : World} (h : FrOk B base xs ls W) (k : Rk B W W') : FrOk B base xs ls W' := ⟨h.1, fun i x l h1 h2 => (h.2 i x l h1 h2).rk k⟩
theorem FrOk.nil (B base : Nat) (W : World) : FrOk B base [] [] W := ⟨rfl, fun i x l h _ => by simp at h⟩
theorem FrOk.snoc {B base : Nat} {xs : List Hd} {ls : List By} {x : Hd} {l : By} {W : World} (h : FrOk B base xs ls W) (k : FrA B base x l W) : FrOk B base (xs ++ [x]) (ls ++ [l]) W := by
  refine ⟨by simp [h.1], fun i y m hy hm => ?_⟩
  by_cases hi : i < xs.length
  · rw [List.getElem?_append_left hi] at hy
    rw [List.getElem?_append_left (by rw [← h.1]; exact hi)] at hm
    exact h.2 i y m hy hm
  · rw [List.getElem?_append_right (by omega)] at hy
    rw [List.getElem?_append_right (by rw [← h.1]; omega)] at hm
    rw [h.1] at hy
    cases hq : i - ls.length with
    | zero =>
      rw [hq] at hy hm
      simp at hy hm
      subst hy hm
      exact k
    | succ q => rw [hq] at hy; simp at hy
/-- The collecting loop's rounds. -/
def Yd (l B base : Nat) (J : List Hd → World → Prop) : Prop := ∀ (m : Nat) pre x W1, J pre W1 → pre.length < 1000 → YieldAt Fence.wide m Tryz.prog l #[hdV x] W1 fun e W' =>
  e = .returned (.bool true) ∧ J (pre ++ [x]) W' ∧ Rk B W1 W' ∧ KeepsFrom base W1 W'
/-- A new row is none of the collecting loop's. -/
theorem fra_new {B base : Nat} {W W1 : World} (hB : B < W.heap.size) (hp : ∀ b, Pv B W b → b < W.heap.size) (hb : base ≤ W.heap.size) {A : Option Addr} {n c : Nat} {l : By} (h : W1.ownsRow W.heap.size 5 1 (.slice A n c) l.length (u8s l)) (k : Kp All W W1) : FrA B base (A, n, c) l W1 := by
  refine ⟨World.ownsRow.mono h hb, fun A' e hq => ?_⟩
  have h1 := hp _ ((Pv.same (k.block B hB trivial) _).1 hq)
  rcases h.2 with hn | ⟨gb, cap, cur, e', hbase, hgb, rest⟩
  · have := hn.1
    injection this with e1 _ _
    simp only at e
    rw [e] at e1; cases e1
  · injection e' with e1 _ _
    simp only at e
    rw [e] at e1
    injection e1 with e1
    subst e1
    simp only at h1
    omega
def chunkL (b : By) (k : Nat) : By := (b.drop (4096 * k)).take (clen b.length k)
theorem take_minc (c : Nat) (b : By) : b.take c = b.take (min c b.length) := by
  by_cases h : c ≤ b.length
  · rw [Nat.min_eq_left h]
  · rw [Nat.min_eq_right (by omega), List.take_length, List.take_of_length_le (by omega)]
theorem parts_range (c d : Nat) (hcd : c = d + 1) (f : Nat → By → List By) (f0 : ∀ b, f 0 b = []) (fs : ∀ n b, f (n + 1) b = if b.length = 0 then [] else b.take c :: f n (b.drop c)) (n : Nat) :
    ∀ b : By, b.length ≤ n → f n b = (List.range ((b.length + d) / c)).map fun k => (b.drop (c * k)).take (min c (b.length - c * k)) := by
  induction n with
  | zero =>
    intro b h
    obtain rfl : b = [] := List.eq_nil_of_length_eq_zero (by omega)
    rw [f0, List.length_nil, Nat.zero_add, Nat.div_eq_of_lt (by omega)]
    rfl
  | succ n ih =>
    intro b h
    rw [fs]
    split
    · next h0 =>
      rw [h0, Nat.zero_add, Nat.div_eq_of_lt (by omega)]
      rfl
    · next h0 =>
      have hq : (b.length + d) / c = (b.length - c + d) / c + 1 := by
        by_cases hl : c ≤ b.length
        · rw [show b.length + d = (b.length - c + d) + c from by omega, Nat.add_div_right _ (by omega)]
        · rw [show b.length + d = (b.length - 1) + c from by omega, Nat.add_div_right _ (by omega), Nat.div_eq_of_lt (by omega), Nat.div_eq_of_lt (by omega)]
      rw [ih _ (by rw [List.length_drop]; omega), List.length_drop, hq, List.range_succ_eq_map, List.map_cons, List.map_map]
      have e1 : b.take c = (b.drop (c * 0)).take (min c (b.length - c * 0)) := by
        rw [Nat.mul_zero, List.drop_zero, Nat.sub_zero]
        exact take_minc c b
      rw [e1]
      congr 1
      apply List.map_congr_left
      intro k _
      simp only [Function.comp_apply, Nat.succ_eq_add_one]
      rw [List.drop_drop, Nat.mul_succ, Nat.add_comm c (c * k), show b.length - c - c * k = b.length - (c * k + c) from by omega]
theorem partsB_range (x : Sn) : partsB x = (List.range (((encSnap x).length + 4095) / 4096)).map (chunkL (encSnap x)) :=
  parts_range 4096 4095 (by decide) parts4 (fun b => by rw [parts4]) (fun n b => by rw [parts4]) _ _ (Nat.le_refl _)
theorem own_footA {w : World} {base e n c sz : Nat} {A : Option Addr} {xs : List Value} (h : w.ownsRow base e sz (.slice A n c) n xs) : Foot All (Sl A n c sz xs) w := by
  obtain ⟨A', c', e1, hf⟩ := sl_own h
  injection e1 with e1 e2 e3
  subst e1 e3
  exact hf.mono fun _ _ _ => trivial
end Go.Proofs.YtbkhademplgicaaGreatDoor
