/- slices.DeleteFunc over pairs, by the closure of Range: walked once. No condition. -/
import Derived.Test.YtodledidabdkaaaDoorWH
namespace Go.Proofs.YtodledidabdkaaaDoor
open Go.RowKit V
set_option linter.unusedVariables false
theorem blk_setCells {b : Nat} {t : TypeId} {fz : Nat × Nat} : ∀ (vs : List Value) (o : Nat) (w : World) (cs : Array Value), w.heap[b]? = some (.cells cs t fz) →
    ∃ cs', (w.setCells b o vs).heap[b]? = some (.cells cs' t fz) ∧ cs'.size = cs.size ∧ cs'.toList.take o = cs.toList.take o
  | [], o, w, cs, h => ⟨cs, h, rfl, rfl⟩
  | v :: r, o, w, cs, h => by
    obtain ⟨cs', h1, h2, h3⟩ := blk_setCells r (o + 1) _ _ (blk_set h o v)
    refine ⟨cs', h1, by simpa using h2, ?_⟩
    have := congrArg (List.take o) h3
    rw [List.take_take, List.take_take, show min o (o + 1) = o from by omega] at this
    rw [this, Array.toList_setIfInBounds, List.take_set_of_le (Nat.le_refl _)]
theorem Kp.setCells {S : Nat → Prop} {a : World} {b : Nat} (hb : ¬ S b) : ∀ (vs : List Value) (o : Nat) (w : World), Kp S a w → Kp S a (w.setCells b o vs)
  | [], _, _, h => h
  | v :: r, o, w, h => Kp.setCells hb r (o + 1) _ (h.setOut hb v)
theorem zc_len (z : Array Value) (n : Nat) : (Builtin.zeroCells z n).toList.length = n * z.size := by simp [Builtin.zeroCells]
theorem run_clear_w (w : World) (b o n c : Nat) (hn : 0 < n) (cs : Array Value) (t : TypeId) (hb : w.heap[b]? = some (.cells cs t (0, 0))) (ho : o + n * 2 ≤ cs.size) :
    ∃ vs, ∀ ty, (Builtin.clear_ #[29] ty #[.slice (some ⟨b, o, none⟩) n c]).run Tryd.prog w = .ok (.tuple #[]) (w.setCells b o vs) := by
  have hzv : (zeroValue 42).run Tryd.prog w = .ok (.agg #[.string ByteArray.empty, .string ByteArray.empty]) w := by kernel_rfl
  refine ⟨(Builtin.zeroCells #[.string ByteArray.empty, .string ByteArray.empty] n).toList, fun ty => ?_⟩
  have hst := run_storeCells_cells (P := Tryd.prog) b o (Builtin.zeroCells #[.string ByteArray.empty, .string ByteArray.empty] n).toList 0 w
    (fun j hj => by
      rw [zc_len] at hj
      have hj' : j < n * 2 := hj
      rw [blk_cell hb, Nat.add_zero, Array.getElem?_eq_getElem (by omega)]; rfl)
    (fun j hj => blk_free hb _)
    (fun v hv => by
      simp only [Builtin.zeroCells, Array.toList_map, List.mem_map] at hv
      obtain ⟨i, _, rfl⟩ := hv
      have h2 : i % 2 = 0 ∨ i % 2 = 1 := by omega
      have hs : (#[Value.string ByteArray.empty, .string ByteArray.empty] : Array Value).size = 2 := rfl
      rw [hs]
      rcases h2 with h2 | h2 <;> rw [h2] <;> rfl)
  simp only [Nat.add_zero] at hst
  obtain ⟨m, rfl⟩ : ∃ m, n = m + 1 := ⟨n - 1, by omega⟩
  have hc : (Value.agg #[.string ByteArray.empty, .string ByteArray.empty]).cells = #[.string ByteArray.empty, .string ByteArray.empty] := rfl
  simp [Builtin.clear_, run_underlying Tryd.underlying29, hzv, hc, hst]

/-- the row behind: what the closure does not strike -/
def DelPPost (p : Slot → Bool) (bv : Value) (L : List Slot) (w : World) (e : Ending) (w' : World) : Prop :=
  ∃ v, e = .returned v ∧ v.ownBlock = bv.ownBlock ∧ w'.ownsRow 0 42 2 v (L.filter fun x => !p x).length (scs (L.filter fun x => !p x)) ∧ Kp (fun b => some b ≠ bv.ownBlock) w w'
theorem DelP.step {p : Slot → Bool} {bx bz : Nat} {L : List Slot} {S : Nat → Prop} {w w1 : World} (h : DelP p bx bz L S w) (k : Kp S w w1) : DelP p bx bz L S w1 := fun x hx w2 k2 => h x hx w2 (k.trans k2)
theorem filt_take {p : Slot → Bool} {L : List Slot} {j : Nat} {x : Slot} (h : L[j]? = some x) : (L.take (j + 1)).filter (fun y => !p y) = (L.take j).filter (fun y => !p y) ++ (if p x then [] else [x]) := by
  rw [List.take_add_one, h, List.filter_append]
  cases hp : p x <;> simp [hp]
/-- the row within the loop -/
structure DelJ (w wr : World) (g cap n : Nat) (p : Slot → Bool) (L : List Slot) (i j : Nat) (M : List Slot) (cur : Array Value) : Prop where
  blk : wr.heap[g]? = some (.cells cur 42 (0, 0))
  size : cur.size = cap * 2
  row : cur.toList.take (n * 2) = scs M
  len : M.length = n
  done : M.take i = (L.take j).filter fun x => !p x
  rest : M.drop j = L.drop j
  kp : Kp (fun b => b ≠ g) w wr
theorem DelJ.at {w wr : World} {g cap n : Nat} {p : Slot → Bool} {L : List Slot} {i j : Nat} {M : List Slot} {cur : Array Value} (h : DelJ w wr g cap n p L i j M cur) (k : Nat) (hk : k < n) : ∃ y, M[k]? = some y ∧ wr.cell? ⟨g, k * 2, none⟩ = some (sv1 y) ∧ wr.cell? ⟨g, k * 2 + 1, none⟩ = some (sv2 y) := by
  obtain ⟨y, hy⟩ : ∃ y, M[k]? = some y := ⟨_, List.getElem?_eq_getElem (by rw [h.len]; exact hk)⟩
  obtain ⟨g1, g2⟩ := scs_get hy
  refine ⟨y, hy, ?_, ?_⟩
  · rw [blk_cell h.blk, ← Array.getElem?_toList]
    rw [← h.row, List.getElem?_take, if_pos (by omega)] at g1
    exact g1
  · rw [blk_cell h.blk, ← Array.getElem?_toList]
    rw [← h.row, List.getElem?_take, if_pos (by omega)] at g2
    exact g2
theorem DelJ.get {w wr : World} {g cap n : Nat} {p : Slot → Bool} {L : List Slot} {i j : Nat} {M : List Slot} {cur : Array Value} (h : DelJ w wr g cap n p L i j M cur) {k : Nat} (hk : j ≤ k) : M[k]? = L[k]? := by
  have := congrArg (fun l => l[k - j]?) h.rest
  simpa [List.getElem?_drop, show j + (k - j) = k from by omega] using this
theorem DelJ.kept {w wr wr' : World} {g cap n : Nat} {p : Slot → Bool} {L : List Slot} {i j : Nat} {M : List Slot} {cur : Array Value} (h : DelJ w wr g cap n p L i j M cur) (k : Kp All wr wr') : DelJ w wr' g cap n p L i j M cur :=
  { h with blk := k.heap h.blk trivial, kp := h.kp.trans k.all }
/-- a write that goes -/
theorem DelJ.drop {w wr : World} {g cap n : Nat} {p : Slot → Bool} {L : List Slot} {i j : Nat} {M : List Slot} {cur : Array Value} (h : DelJ w wr g cap n p L i j M cur) {x : Slot} (hx : L[j]? = some x) (hp : p x = true) : DelJ w wr g cap n p L i (j + 1) M cur :=
  { h with
    done := by rw [filt_take hx, hp, h.done]; simp
    rest := by
      have := congrArg (List.drop 1) h.rest
      simpa [List.drop_drop] using this }
/-- a write that stays -/
theorem DelJ.stay {w wr : World} {g cap n : Nat} {p : Slot → Bool} {L : List Slot} {i j : Nat} {M : List Slot} {cur : Array Value} (h : DelJ w wr g cap n p L i j M cur) (hij : i < j) (hjn : j < n) {x : Slot} (hx : L[j]? = some x) (hp : p x = false) :
    ∃ cur', DelJ w ((wr.setCell ⟨g, i * 2, none⟩ (sv1 x)).setCell ⟨g, i * 2 + 1, none⟩ (sv2 x)) g cap n p L (i + 1) (j + 1) (M.set i x) cur' := by
  refine ⟨_, ⟨blk_set (blk_set h.blk (i * 2) (sv1 x)) (i * 2 + 1) (sv2 x), by simpa using h.size, ?_, by simpa using h.len, ?_, ?_, (h.kp.setOut (by simp) _).setOut (by simp) _⟩⟩
  · rw [scs_set, ← h.row]
    simp only [Array.toList_setIfInBounds, List.take_set]
  · rw [filt_take hx, hp, ← h.done]
    have hi : i < M.length := by rw [h.len]; omega
    rw [List.take_add_one, List.getElem?_set_self hi]
    simp [List.take_set_of_le]
  · rw [List.drop_set_of_lt (by omega)]
    have := congrArg (List.drop 1) h.rest
    simpa [List.drop_drop] using this
set_option maxRecDepth 100000 in
set_option maxHeartbeats 1000000 in
theorem delp_any (p : Slot → Bool) (bx bz : Nat) (bv : Value) (n : Nat) (L : List Slot) (hn : L.length = n) (hm : n ≤ 1073741824) (w : World) (hrow : w.ownsRow 0 42 2 bv n (scs L)) (hd : DelP p bx bz L (fun b => some b ≠ bv.ownBlock) w) :
    Calls Tryd.prog 27 #[bv, .func (.func 28) #[] #[.pointer (some ⟨bx, 0, none⟩), .pointer (some ⟨bz, 0, none⟩)]] w (DelPPost p bv L w) := by
  have HR := hid hrow; have HD := hid hd; have HN := hid hn
  have hs : ∀ A c, bv = .slice A n c → Foot All (Sl A n c 2 (scs L)) w := by
    rintro A c rfl u hu
    have h1 := own_kept hrow hu (fun _ _ => trivial)
    refine ⟨by rw [scs_len, hn], ?_, fun h0 => ?_⟩
    · rcases h1.2 with ⟨e, e2⟩ | ⟨g, cap, cur, e, hb, hg, hnc, _⟩
      · injection e with e1 e3 e4; omega
      · injection e with e1 e3 e4; subst e4; exact hnc
    · rcases own_at h1 with ⟨_, e, _⟩ | ⟨g, cap, cur, e, hg, _, hat⟩
      · omega
      · injection e with e1 e3 e4
        exact ⟨g, 0, e1, fun j u hj => by rw [Nat.zero_add]; exact hat j u hj⟩
  have e1 : ∀ args w, (callFunc 28 args).run Tryd.prog w = .ok (.enter 28 args) w := enR1
  by_cases hall : ∀ x ∈ L, p x = false
  · obtain ⟨A, c, rfl⟩ := own_shape hrow
    have HS := hid (hs A c rfl)
    have HALL := hid hall
    clear hs hrow hd hn hall
    go_enter Tryd.func27, Tryd.ntmps27
    go_wp2_with fail
    refine (idxp_any p bx bz A n c L HN.out (by omega) _ w HS.out HD.out).mono ?_
    rintro e w1 ⟨⟨r, rfl, hr⟩, hk⟩
    obtain rfl : r = -1 := by
      rcases hr with ⟨h, _⟩ | ⟨i, x, _, h2, h3, _⟩
      · exact h
      · rw [HALL.out x (List.mem_of_getElem? h2)] at h3; cases h3
    have HK := hid hk
    clear hr hk
    go_wp2_with fail
    go_ret
    have hf : L.filter (fun x => !p x) = L := List.filter_eq_self.2 fun x hx => by simp [HALL.out x hx]
    exact ⟨_, rfl, rfl, by rw [hf, HN.out]; exact own_kept HR.out HK.out (fun _ _ => trivial), HK.out.all⟩
  · rcases hrow.2 with ⟨rfl, e⟩ | ⟨g, cap, cur, rfl, hb, hg, hnc, hcm, hcs, htake⟩
    · exact absurd (fun x hx => by rw [List.eq_nil_of_length_eq_zero (by omega : L.length = 0)] at hx; cases hx) hall
    have HS := hid (hs _ _ rfl)
    have HALL := hid hall
    have hgb : g < w.heap.size := blk_lt hg
    have HG := hid hg; have HC := hid hcs; have HT := hid htake
    clear hs hrow hd hn hall hg hcs htake
    go_enter Tryd.func27, Tryd.ntmps27
    go_wp2_with fail
    refine (idxp_any p bx bz _ n cap L HN.out (by omega) _ w HS.out HD.out).mono ?_
    rintro e w1 ⟨⟨r, rfl, hr⟩, hk⟩
    obtain ⟨i0, x0, rfl, hi0, hp0, hnone⟩ : ∃ i x, r = (i : Nat) ∧ L[i]? = some x ∧ p x = true ∧ ∀ y ∈ L.take i, p y = false := by
      rcases hr with ⟨_, h⟩ | h
      · exact absurd h HALL.out
      · exact h
    have hi0n : i0 < n := by rw [← HN.out]; exact (List.getElem?_eq_some_iff.1 hi0).1
    have HK := hid hk; have HI := hid hi0; have HP := hid hp0; have HNO := hid hnone
    clear hr hk hi0 hp0 hnone
    have hne : ((i0 : Int) == -1) = false := beq_eq_false_iff_ne.2 (by omega)
    go_wp2_with fail
    go_loopw [5, 6] (fun ii jj wr => ∃ i j M cu, i < j ∧ j ≤ n ∧ ii = .int .i64 (i : Nat) ∧ jj = .int .i64 (j : Nat) ∧ Hid (DelJ w wr g cap n p L i j M cu)) (fun _ jj _ => n - (ivl jj).toNat)
    case atStart =>
      refine ⟨i0, i0 + 1, L, cur, by omega, by omega, rfl, by go_num, ⟨HK.out.heap HG.out trivial, HC.out, HT.out, HN.out, ?_, rfl, HK.out.all⟩⟩
      rw [filt_take HI.out, HP.out]
      simp only [if_true, List.append_nil]
      exact (List.filter_eq_self.2 fun x hx => by simp [HNO.out x hx]).symm
    case round =>
      obtain ⟨i, j, M, cu, hij, hjn, rfl, rfl, hI⟩ := hrel
      by_cases hlt : j < n
      · have hb0 : decide ((j : Int) < (n : Int)) = true := decide_eq_true (by omega)
        have j0 : (0 : Int) ≤ (j : Int) := by omega
        have j1 : (j : Int) < (n : Int) := by omega
        have i0' : (0 : Int) ≤ (i : Int) := by omega
        have i1' : (i : Int) < (n : Int) := by omega
        obtain ⟨⟨x1, x2⟩, hx', c1, c2⟩ := hI.out.at j hlt
        have hx : L[j]? = some (x1, x2) := by rw [← hI.out.get (Nat.le_refl _)]; exact hx'
        unfold sv1 at c1; unfold sv2 at c2
        have hk1 : Kp (fun b => b ≠ g) w wr := hI.out.kp
        obtain ⟨t, ht⟩ : ∃ t, p (x1, x2) = t := ⟨_, rfl⟩
        have HTT := hid ht; have HX := hid hx
        have HCL : Hid (Calls Tryd.prog 28 #[.agg #[.string x1, .string x2], .pointer (some ⟨bx, 0, none⟩), .pointer (some ⟨bz, 0, none⟩)] (wr.alloc (.cells #[.string x1, .string x2] 42)) fun e w2 => e = .returned (.bool t) ∧ Kp All (wr.alloc (.cells #[.string x1, .string x2] 42)) w2) := hid (by
          rw [← ht]
          exact HD.out (x1, x2) (List.mem_of_getElem? hx) _ ((hk1.mono fun b _ hb e => hb (by rw [e]; rfl)).alloc _))
        have hbx := blk_new wr (.cells #[.string x1, .string x2] 42)
        have HBX := hid hbx
        clear hx hx' ht hk1 hbx
        cases t
        · go_wp2_with (go_at_fn 28; refine HCL.out.mono ?_; rintro e w2 ⟨rfl, hk2⟩; have d1 := blk_cell (hk2.heap HBX.out trivial); have hI2 := hI.out.kept ((Kp.al _ _).trans hk2); have f2 := blk_free hI2.blk; obtain ⟨y, _, y1, y2⟩ := hI2.at i (by omega); have HI2 := hid hI2; clear hk2 hI2)
          obtain ⟨cu', hI3⟩ := HI2.out.stay hij hlt HX.out HTT.out
          exact ⟨⟨i + 1, j + 1, _, cu', by omega, by omega, by go_num, by go_num, hI3⟩, by simp [ivl]; omega⟩
        · go_wp2_with (go_at_fn 28; refine HCL.out.mono ?_; rintro e w2 ⟨rfl, hk2⟩; have HK2 := hid hk2; clear hk2)
          exact ⟨⟨i, j + 1, M, cu, by omega, by omega, rfl, by go_num, (hI.out.kept ((Kp.al _ _).trans HK2.out)).drop HX.out HTT.out⟩, by simp [ivl]; omega⟩
      · have hb0 : decide ((j : Int) < (n : Int)) = false := decide_eq_false (by omega)
        obtain rfl : j = n := by omega
        have hcj : j ≤ cap := hnc
        obtain ⟨vs, hvs⟩ := run_clear_w wr g (i * 2) (j - i) (cap - i) (by omega) cu _ hI.out.blk (by rw [hI.out.size]; omega)
        have i0' : (0 : Int) ≤ (i : Int) := by omega
        have i1' : (i : Int) ≤ (j : Int) := by omega
        have i2' : (i : Int) ≤ (cap : Int) := by omega
        have i3' : ¬ cap = i := by omega
        go_wp2_with fail
        go_ret
        have hI' := hI.out
        obtain ⟨cu', h1, h2, h3⟩ := blk_setCells vs (i * 2) wr cu hI'.blk
        have hLt : L.take j = L := List.take_of_length_le (by rw [HN.out]; exact Nat.le_refl _)
        have hdone := hI'.done
        rw [hLt] at hdone
        have hli : (L.filter fun x => !p x).length = i := by rw [← hdone, List.length_take, hI'.len]; omega
        refine ⟨_, rfl, rfl, ?_, (Kp.setCells (by simp) vs _ _ hI'.kp).mono fun b _ hb e => hb (by rw [e]; rfl)⟩
        rw [hli]
        refine ⟨by rw [scs_len, hli], .inr ⟨g, cap, cu', rfl, hb, h1, by omega, hcm, by rw [h2]; exact hI'.size, ?_⟩⟩
        rw [h3, ← hdone]
        have := congrArg (List.take (i * 2)) hI'.row
        rw [List.take_take, show min (i * 2) (j * 2) = i * 2 from by omega] at this
        rw [this]
        have hM : M = M.take i ++ M.drop i := (List.take_append_drop i M).symm
        have hl : (scs (M.take i)).length = i * 2 := by rw [scs_len, List.length_take, hI'.len]; omega
        calc (scs M).take (i * 2) = (scs (M.take i ++ M.drop i)).take (i * 2) := by rw [← hM]
          _ = scs (M.take i) := by rw [scs_append, List.take_append_of_le_length (by omega), List.take_of_length_le (by omega)]
end Go.Proofs.YtodledidabdkaaaDoor
