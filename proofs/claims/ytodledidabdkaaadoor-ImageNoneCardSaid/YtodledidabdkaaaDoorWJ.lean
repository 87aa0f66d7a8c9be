/- image.Range walked: the pairs of a range. No condition. -/
import Derived.Test.YtodledidabdkaaaDoorWI
import Derived.Test.YtodledidabdkaaaDoorWF
namespace Go.Proofs.YtodledidabdkaaaDoor
open Go.RowKit Go.Shelf Go.Sort V
set_option linter.unusedVariables false
set_option linter.unusedSimpArgs false
theorem ipairs_any (k0 k1 : Nat) (po : Option Nat) (M : Mp) (O : Nat → Prop) (w : World) (h : Lo k0 k1 po M O w) : Calls Tryd.prog 8 #[mV po] w (PairsR (pairsP M) w) := ipairs_of sortp_any k0 k1 po M O w h
theorem own_base0 {w : World} {base e sz n : Nat} {v : Value} {xs : List Value} (h : w.ownsRow 0 e sz v n xs) (hb : ∀ b, v.ownBlock = some b → base ≤ b) : w.ownsRow base e sz v n xs := by
  refine ⟨h.1, ?_⟩
  rcases h.2 with hn | ⟨g, cap, cur, rfl, _, rest⟩
  · exact .inl hn
  · exact .inr ⟨g, cap, cur, rfl, hb g rfl, rest⟩
theorem emp_tx (a : Tx) : (a.toList == ([] : List UInt8)) = decide (a = ByteArray.empty) := by
  have h1 := beq_tx a ByteArray.empty
  rw [show ByteArray.empty.toList = [] from by rw [ByteArray.toList_eq]; rfl] at h1
  rw [h1]
  by_cases e : a = ByteArray.empty
  · subst e; simp
  · rw [decide_eq_false e, decide_eq_false fun h => e (bl_inj h)]
theorem irange1_any (lo hi k v : Tx) (bx bz : Nat) (t1 t2 : TypeId) (w : World) (h1 : w.heap[bx]? = some (.cells #[.string lo] t1 (0, 0))) (h2 : w.heap[bz]? = some (.cells #[.string hi] t2 (0, 0))) :
    Calls Tryd.prog 28 #[.agg #[.string k, .string v], .pointer (some ⟨bx, 0, none⟩), .pointer (some ⟨bz, 0, none⟩)] w fun e w2 => e = .returned (.bool (!inR lo hi (k, v))) ∧ Kp All w w2 := by
  have hb1 := blk_lt h1
  have hb2 := blk_lt h2
  have c1 := blk_cell h1
  have c2 := blk_cell h2
  have hh : (!inR lo hi (k, v)) = (Op.bytesLess k.toList lo.toList || (!(hi.toList == [])) && !(Op.bytesLess k.toList hi.toList)) := by
    rw [lss_tx, lss_tx, emp_tx]
    unfold inR
    by_cases a1 : bl k < bl lo <;> by_cases a2 : hi = ByteArray.empty <;> by_cases a3 : bl k < bl hi <;> simp [a1, a2, a3]
  rw [hh]
  clear hh
  obtain ⟨b1, e1⟩ : ∃ b1, Op.bytesLess k.toList lo.toList = b1 := ⟨_, rfl⟩
  obtain ⟨b2, e2⟩ : ∃ b2, (hi.toList == []) = b2 := ⟨_, rfl⟩
  obtain ⟨b3, e3⟩ : ∃ b3, Op.bytesLess k.toList hi.toList = b3 := ⟨_, rfl⟩
  rw [e1, e2, e3]
  cases b1 <;> cases b2 <;> cases b3 <;>
  · go_enter Tryd.func28, Tryd.ntmps28
    go_wp2_with fail
    go_ret
    exact ⟨rfl, Kp.al _ _⟩
theorem scs_take : ∀ (l : List Slot) (k : Nat), scs (l.take k) = (scs l).take (k * 2)
  | [], k => by simp [scs]
  | x :: r, 0 => by simp [scs]
  | x :: r, k + 1 => by
    have := scs_take r k
    simp only [scs, List.take_succ_cons, List.flatMap_cons] at this ⊢
    rw [this, show (k + 1) * 2 = k * 2 + 2 from by omega]
    simp
theorem own_take {w : World} {base e sz n c k : Nat} {A : Option Addr} {xs : List Value} (h : w.ownsRow base e sz (.slice A n c) n xs) (hk : k ≤ n) : w.ownsRow base e sz (.slice A k c) k (xs.take (k * sz)) := by
  have hm : k * sz ≤ n * sz := Nat.mul_le_mul_right _ hk
  refine ⟨by rw [List.length_take, h.1]; omega, ?_⟩
  rcases h.2 with ⟨e1, e2⟩ | ⟨g, cap, cur, e1, hb, hg, hn, hc, hs, ht⟩
  · injection e1 with eA _ ec
    subst eA ec e2
    obtain rfl : k = 0 := by omega
    exact .inl ⟨rfl, rfl⟩
  · injection e1 with eA _ ec
    subst eA ec
    exact .inr ⟨g, c, cur, rfl, hb, hg, by omega, hc, hs, by rw [← ht, List.take_take, show min (k * sz) (n * sz) = k * sz from by omega]⟩
theorem Lo.plen {k0 k1 : Nat} {po : Option Nat} {M : Mp} {O : Nat → Prop} {w : World} (h : Lo k0 k1 po M O w) : (pairsP M).length ≤ 2000 := by
  unfold pairsP; rw [List.length_mergeSort]; exact lo_len h
set_option maxRecDepth 100000 in
set_option maxHeartbeats 1000000 in
theorem irange_any (k0 k1 : Nat) (po : Option Nat) (M : Mp) (O : Nat → Prop) (lo hi : Tx) (n : Int) (w : World) (h : Lo k0 k1 po M O w) : Calls Tryd.prog 9 #[mV po, .string lo, .string hi, .int .i64 n] w (PairsR (rangeP (pairsP M) lo hi n) w) := by
  have HALL := hid (fun w => ipairs_any k0 k1 po M O w)
  have HL := hid h
  have hmv : ∃ x, mV po = .pointer x := ⟨_, rfl⟩
  obtain ⟨xm, hx⟩ := hmv
  rw [hx] at HALL
  rw [hx]
  clear h
  go_enter Tryd.func9, Tryd.ntmps9
  go_wp2_with fail
  obtain ⟨w2, hw2⟩ : ∃ w2, (w.alloc (Obj.cells #[Value.string lo] 9)).alloc (Obj.cells #[Value.string hi] 9) = w2 := ⟨_, rfl⟩
  have k2 : Kp All w w2 := hw2 ▸ (Kp.al _ _).trans (Kp.al _ _)
  have z2 : w2.heap.size = w.heap.size + 2 := by rw [← hw2]; simp
  have b1 : w2.heap[w.heap.size]? = some (.cells #[.string lo] 9 (0, 0)) := by
    rw [← hw2]
    exact (Below.heap_alloc _ _ _ (by simp)).trans (World.alloc_heap_new w _)
  have b2 : w2.heap[w.heap.size + 1]? = some (.cells #[.string hi] 9 (0, 0)) := by
    rw [← hw2]
    have := World.alloc_heap_new (w.alloc (Obj.cells #[Value.string lo] 9)) (Obj.cells #[Value.string hi] 9)
    rwa [World.size_alloc] at this
  rw [hw2]
  refine (HALL.out w2 (HL.out.all k2)).mono ?_
  rintro e w3 ⟨v, rfl, hrow, k3⟩
  have hlen := HL.out.plen
  have hob : ∀ b, v.ownBlock = some b → w2.heap.size ≤ b := by
    intro b e
    rcases own_at hrow with ⟨rfl, _⟩ | ⟨g, cap, cur, rfl, hg1, hg2, _⟩
    · cases e
    · injection e with e; subst e; exact hg2
  have hD : DelP (fun x => !inR lo hi x) w.heap.size (w.heap.size + 1) (pairsP M) (fun b => some b ≠ v.ownBlock) w3 := by
    rintro ⟨k, u⟩ _ w1 kk
    have hs : ∀ b, b < w2.heap.size → some b ≠ v.ownBlock := fun b hb e => by have := hob b e.symm; omega
    exact irange1_any lo hi k u _ _ _ _ w1 (kk.heap (k3.heap b1 trivial) (hs _ (by omega))) (kk.heap (k3.heap b2 trivial) (hs _ (by omega)))
  have HDEL := hid (delp_any (fun x => !inR lo hi x) w.heap.size (w.heap.size + 1) v (pairsP M).length (pairsP M) rfl (by omega) w3 (own_mono hrow (Nat.zero_le _)) hD)
  have HX := hid (And.intro hob (And.intro k2 (And.intro k3 z2)))
  clear hD hob hlen hrow k2 k3 z2 b1 b2 hw2
  go_wp2_with fail
  refine HDEL.out.mono ?_
  rintro e w4 ⟨v4, rfl, hb4, hrow4, k4⟩
  have hff : ((pairsP M).filter fun x => !(fun x => !inR lo hi x) x) = (pairsP M).filter (inR lo hi) := by simp
  rw [hff] at hrow4
  obtain ⟨F, hF⟩ : ∃ F, (pairsP M).filter (inR lo hi) = F := ⟨_, rfl⟩
  rw [hF] at hrow4
  have HF := hid hF
  have hFl : F.length ≤ 2000 := by
    rw [← hF]
    exact Nat.le_trans (List.length_filter_le _ _) HL.out.plen
  have hcap : ∀ A c, v4 = .slice A F.length c → F.length ≤ c ∧ (A = none → c = 0) := by
    rintro A c rfl
    rcases hrow4.2 with ⟨e, e2⟩ | ⟨g, cap, cur, e, _, _, hnc, _⟩
    · injection e with e1 e3 e4; exact ⟨by omega, fun _ => e4⟩
    · injection e with e1 e3 e4; subst e4; exact ⟨hnc, fun h => by rw [h] at e1; cases e1⟩
  obtain ⟨A, c, rfl⟩ := own_shape hrow4
  obtain ⟨hc1, hc2⟩ := hcap _ _ rfl
  obtain ⟨fl, hfl⟩ : ∃ fl, F.length = fl := ⟨_, rfl⟩
  have HR4 := hid (And.intro hrow4 (And.intro hb4 k4))
  clear hrow4 hb4 k4 hcap hff hF HDEL
  rw [hfl] at hFl HR4 hc1
  have m0 : (0 : Int) ≤ min (fl : Int) (max n 0) := by omega
  have m1 : min (fl : Int) (max n 0) ≤ (c : Int) := by omega
  go_wp2_with fail
  go_ret
  obtain ⟨hrow4, hb4, k4⟩ := HR4.out
  obtain ⟨hob, k2, k3, z2⟩ := HX.out
  have hk : (min (fl : Int) (max n 0)).toNat ≤ fl := by omega
  have hrl : rangeP (pairsP M) lo hi n = F.take (min (fl : Int) (max n 0)).toNat := by
    unfold rangeP
    rw [HF.out]
    by_cases hh : (max n 0).toNat ≤ fl
    · rw [show (min (fl : Int) (max n 0)).toNat = (max n 0).toNat from by omega]
    · rw [show (min (fl : Int) (max n 0)).toNat = fl from by omega, List.take_of_length_le (by omega), List.take_of_length_le (by omega)]
  rw [hrl]
  have hr5 : w4.ownsRow w.heap.size 42 2 (.slice A fl c) fl (scs F) := own_base0 hrow4 fun b e => by have := hob b (by rw [← hb4]; exact e); omega
  refine ⟨_, rfl, ?_, ?_⟩
  · have hlk : (F.take (min (fl : Int) (max n 0)).toNat).length = (min (fl : Int) (max n 0)).toNat := by rw [List.length_take]; omega
    rw [hlk, scs_take]
    exact own_take hr5 hk
  · refine ⟨k4.os.trans (k3.os.trans k2.os), k4.tape.trans (k3.tape.trans k2.tape), k4.output.trans (k3.output.trans k2.output), Nat.le_trans k2.size (Nat.le_trans k3.size k4.size), fun b hb _ => ?_⟩
    have h2 := k2.size
    have h3 := k3.size
    rw [k4.block b (by omega) (fun e => by have := hob b e.symm; omega), k3.block b (by omega) trivial, k2.block b hb trivial]
end Go.Proofs.YtodledidabdkaaaDoor
