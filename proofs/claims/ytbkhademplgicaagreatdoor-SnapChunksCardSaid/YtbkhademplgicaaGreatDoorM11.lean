/- slices.IndexFunc over the buffer's writes, by the closure of gone: walked once. No condition. slices.DeleteFunc over the buffer's writes, by the closure of gone: walked once. No condition. The disk: gone: a file goes, with its writes. What it leaves, in plain Lean; the closure, walked once. No condition on the disk but that it lies as Dk says. The disk: gone, walked once. No condition on the disk but that it lies as Dk says. The disk: Create of a name that is there, and of any name: walked once. No condition on the disk but that it lies as Dk says. The disk: Create of any name: walked once. No condition on the disk but that it lies as Dk says. The disk: Arm, Ops, Remove: walked once each. No condition on the disk but that it lies as Dk says. -/
import Derived.Test.YtbkhademplgicaaGreatDoorM6
set_option linter.unusedVariables false
set_option linter.unusedSimpArgs false
namespace Go.Proofs.YtbkhademplgicaaGreatDoor
open Go.RowKit
set_option linter.unusedVariables false
abbrev E2 := Option Addr × Option Addr × Nat × Nat
abbrev v1 (x : E2) : Value := .pointer x.1
abbrev v2 (x : E2) : Value := .slice x.2.1 x.2.2.1 x.2.2.2
def e2 (L : List E2) : List Value := L.flatMap fun x => [v1 x, v2 x]
theorem e2_len (L : List E2) : (e2 L).length = L.length * 2 := by
  induction L with
  | nil => rfl
  | cons x l ih => simp only [e2, List.flatMap_cons, List.length_append, List.length_cons, List.length_nil] at ih ⊢; omega
theorem e2_append (L M : List E2) : e2 (L ++ M) = e2 L ++ e2 M := by simp [e2]
theorem e2_get : ∀ (L : List E2) (k : Nat) (x : E2), L[k]? = some x → (e2 L)[k * 2]? = some (v1 x) ∧ (e2 L)[k * 2 + 1]? = some (v2 x)
  | [], k, x, h => by simp at h
  | y :: l, 0, x, h => by
    simp at h
    subst h
    simp [e2]
  | y :: l, k + 1, x, h => by
    have := e2_get l k x (by simpa using h)
    simp only [e2, List.flatMap_cons] at this ⊢
    rw [show (k + 1) * 2 = k * 2 + 2 from by omega]
    exact this
/-- what the closure answers of each write -/
def Del (p : E2 → Bool) (bx : Nat) (L : List E2) (S : Nat → Prop) (w : World) : Prop := ∀ x ∈ L, ∀ w1, Kp S w w1 → Calls Tryz.prog 141 #[.agg #[v1 x, v2 x], .pointer (some ⟨bx, 0, none⟩)] w1 fun e w2 => e = .returned (.bool (p x)) ∧ Kp All w1 w2
theorem en67 : Enters Tryz.prog 141 := enters_of Tryz.func141 (by kernel_rfl) rfl
def Idx (p : E2 → Bool) (L : List E2) (w : World) (e : Ending) (w' : World) : Prop :=
  (∃ r : Int, e = .returned (.int .i64 r) ∧ ((r = -1 ∧ ∀ x ∈ L, p x = false) ∨ ∃ i x, r = (i : Nat) ∧ L[i]? = some x ∧ p x = true ∧ ∀ y ∈ L.take i, p y = false)) ∧ Kp All w w'
set_option maxRecDepth 100000 in
theorem idxfunc_any (p : E2 → Bool) (bx : Nat) (A : Option Addr) (n c : Nat) (L : List E2) (hn : L.length = n) (hm : n ≤ 9223372036854775807) (S : Nat → Prop) (w : World) (hs : Foot All (Sl A n c 2 (e2 L)) w) (hd : Del p bx L S w) :
    Calls Tryz.prog 171 #[.slice A n c, .func (.func 141) #[] #[.pointer (some ⟨bx, 0, none⟩)]] w (Idx p L w) := by
  have HS := hid hs; have HD := hid hd; have HN := hid hn
  have e1 : ∀ args w, (callFunc 141 args).run Tryz.prog w = .ok (.enter 141 args) w := en67
  clear hs hd hn
  go_enter Tryz.func171, Tryz.ntmps171
  go_wp2_with fail
  go_loopw [8] (fun i wr => ∃ k : Nat, k ≤ n ∧ i = .int .i64 k ∧ Hid (∀ y ∈ L.take k, p y = false) ∧ Hid (Kp All w wr)) (fun i _ => n - (intOf i).toNat)
  case atStart => exact ⟨0, Nat.zero_le _, rfl, by simp [Hid], Kp.refl _ _⟩
  case round =>
    obtain ⟨k, hk, rfl, hall, hkp⟩ := hrel
    by_cases hlt : k < n
    · have hb0 : decide ((k : Int) < (n : Int)) = true := decide_eq_true (by omega)
      have i0 : (0 : Int) ≤ (k : Int) := by omega
      have i1 : (k : Int) < (n : Int) := by omega
      obtain ⟨x, hx⟩ : ∃ x, L[k]? = some x := ⟨_, List.getElem?_eq_getElem (by rw [HN.out]; exact hlt)⟩
      obtain ⟨x1, x2, x3, x4⟩ := x
      obtain ⟨b, o, rfl, hr⟩ := (HS.out wr hkp.out).2.2 (by omega)
      obtain ⟨g1, g2⟩ := e2_get L k _ hx
      have c1 := hr _ _ g1
      have c2 := hr _ _ g2
      rw [← Nat.add_assoc] at c2
      obtain ⟨t, ht⟩ : ∃ t, p (x1, x2, x3, x4) = t := ⟨_, rfl⟩
      have HT := hid ht; have HX := hid hx
      have HC : Hid (Calls Tryz.prog 141 #[.agg #[.pointer x1, .slice x2 x3 x4], .pointer (some ⟨bx, 0, none⟩)] wr fun e w2 => e = .returned (.bool t) ∧ Kp All wr w2) := hid (by rw [← ht]; exact HD.out (x1, x2, x3, x4) (List.mem_of_getElem? hx) wr hkp.out.all)
      clear g1 g2 hr ht hx
      cases t
      · go_wp2_with (go_at_fn 141; refine HC.out.mono ?_; rintro e w2 ⟨rfl, hk2⟩; have HK2 := hid hk2; clear hk2)
        refine ⟨⟨k + 1, by omega, by go_num, ?_, hkp.out.trans HK2.out⟩, by simp [intOf]; omega⟩
        intro y hy
        rw [List.take_add_one, HX.out] at hy
        rcases List.mem_append.1 hy with hy | hy
        · exact hall.out y hy
        · simp at hy; subst hy; exact HT.out
      · go_wp2_with (go_at_fn 141; refine HC.out.mono ?_; rintro e w2 ⟨rfl, hk2⟩; have HK2 := hid hk2; clear hk2)
        go_ret
        exact ⟨⟨k, rfl, .inr ⟨k, _, rfl, HX.out, HT.out, hall.out⟩⟩, hkp.out.trans HK2.out⟩
    · have hb0 : decide ((k : Int) < (n : Int)) = false := decide_eq_false (by omega)
      go_wp2_with fail
      go_ret
      have : L.take k = L := List.take_of_length_le (by rw [HN.out]; omega)
      exact ⟨⟨-1, rfl, .inl ⟨rfl, by have h := hall.out; rw [this] at h; exact h⟩⟩, hkp.out⟩
end Go.Proofs.YtbkhademplgicaaGreatDoor

namespace Go.Proofs.YtbkhademplgicaaGreatDoor
open Go.RowKit
set_option linter.unusedVariables false
theorem e2_set : ∀ (L : List E2) (i : Nat) (x : E2), e2 (L.set i x) = ((e2 L).set (i * 2) (v1 x)).set (i * 2 + 1) (v2 x)
  | [], i, x => by simp [e2]
  | y :: l, 0, x => by simp [e2]
  | y :: l, i + 1, x => by
    have := e2_set l i x
    simp only [e2, List.set_cons_succ, List.flatMap_cons] at this ⊢
    rw [this, show (i + 1) * 2 = i * 2 + 2 from by omega]
    rfl
theorem blk_setCells {b : Nat} {t : TypeId} {fz : Nat × Nat} : ∀ (vs : List Value) (o : Nat) (w : World) (cs : Array Value), w.heap[b]? = some (.cells cs t fz) →
    ∃ cs', (w.setCells b o vs).heap[b]? = some (.cells cs' t fz) ∧ cs'.size = cs.size ∧ cs'.toList.take o = cs.toList.take o
  | [], o, w, cs, h => ⟨cs, h, rfl, rfl⟩
  | v :: r, o, w, cs, h => by
    obtain ⟨cs', h1, h2, h3⟩ := blk_setCells r (o + 1) _ _ (blk_set h o v)
    refine ⟨cs', h1, by simpa using h2, ?_⟩
    have := congrArg (List.take o) h3
    rw [List.take_take, List.take_take, show min o (o + 1) = o from by omega] at this
    rw [this, Array.toList_setIfInBounds, List.take_set_of_le (Nat.le_refl _)]
theorem Kp.setCells {S : Nat → Prop} {a : World} {b : Nat} (hb : ¬ S b) : ∀ (vs : List Value) (o : Nat) (w : World), Kp S a w → Kp S a (w.setCells b o vs)
  | [], _, _, h => h
  | v :: r, o, w, h => Kp.setCells hb r (o + 1) _ (h.setOut hb v)
theorem zc_len (z : Array Value) (n : Nat) : (Builtin.zeroCells z n).toList.length = n * z.size := by simp [Builtin.zeroCells]
theorem run_clear_w (w : World) (b o n c : Nat) (hn : 0 < n) (cs : Array Value) (t : TypeId) (hb : w.heap[b]? = some (.cells cs t (0, 0))) (ho : o + n * 2 ≤ cs.size) :
    ∃ vs, ∀ ty, (Builtin.clear_ #[89] ty #[.slice (some ⟨b, o, none⟩) n c]).run Tryz.prog w = .ok (.tuple #[]) (w.setCells b o vs) := by
  have hzv : (zeroValue 133).run Tryz.prog w = .ok (.agg #[.pointer none, .slice none 0 0]) w := by kernel_rfl
  refine ⟨(Builtin.zeroCells #[.pointer none, .slice none 0 0] n).toList, fun ty => ?_⟩
  have hst := run_storeCells_cells (P := Tryz.prog) b o (Builtin.zeroCells #[.pointer none, .slice none 0 0] n).toList 0 w
    (fun j hj => by
      rw [zc_len] at hj
      have hj' : j < n * 2 := hj
      rw [blk_cell hb, Nat.add_zero, Array.getElem?_eq_getElem (by omega)]; rfl)
    (fun j hj => blk_free hb _)
    (fun v hv => by
      simp only [Builtin.zeroCells, Array.toList_map, List.mem_map] at hv
      obtain ⟨i, _, rfl⟩ := hv
      have h2 : i % 2 = 0 ∨ i % 2 = 1 := by omega
      have hs : (#[Value.pointer none, Value.slice none 0 0] : Array Value).size = 2 := rfl
      rw [hs]
      rcases h2 with h2 | h2 <;> rw [h2] <;> rfl)
  simp only [Nat.add_zero] at hst
  obtain ⟨m, rfl⟩ : ∃ m, n = m + 1 := ⟨n - 1, by omega⟩
  have hc : (Value.agg #[.pointer none, .slice none 0 0]).cells = #[.pointer none, .slice none 0 0] := rfl
  simp [Builtin.clear_, run_underlying Tryz.underlying89, hzv, hc, hst]

/-- the row behind: what the closure does not strike -/
def DelPost (p : E2 → Bool) (bv : Value) (L : List E2) (w : World) (e : Ending) (w' : World) : Prop :=
  ∃ v, e = .returned v ∧ v.ownBlock = bv.ownBlock ∧ w'.ownsRow 0 133 2 v (L.filter fun x => !p x).length (e2 (L.filter fun x => !p x)) ∧ Kp (fun b => some b ≠ bv.ownBlock) w w'
theorem Del.step {p : E2 → Bool} {bx : Nat} {L : List E2} {S : Nat → Prop} {w w1 : World} (h : Del p bx L S w) (k : Kp S w w1) : Del p bx L S w1 := fun x hx w2 k2 => h x hx w2 (k.trans k2)
theorem filt_take {p : E2 → Bool} {L : List E2} {j : Nat} {x : E2} (h : L[j]? = some x) : (L.take (j + 1)).filter (fun y => !p y) = (L.take j).filter (fun y => !p y) ++ (if p x then [] else [x]) := by
  rw [List.take_add_one, h, List.filter_append]
  cases hp : p x <;> simp [hp]
/-- the row within the loop -/
structure DelI (w wr : World) (g cap n : Nat) (p : E2 → Bool) (L : List E2) (i j : Nat) (M : List E2) (cur : Array Value) : Prop where
  blk : wr.heap[g]? = some (.cells cur 133 (0, 0))
  size : cur.size = cap * 2
  row : cur.toList.take (n * 2) = e2 M
  len : M.length = n
  done : M.take i = (L.take j).filter fun x => !p x
  rest : M.drop j = L.drop j
  kp : Kp (fun b => b ≠ g) w wr
theorem DelI.at {w wr : World} {g cap n : Nat} {p : E2 → Bool} {L : List E2} {i j : Nat} {M : List E2} {cur : Array Value} (h : DelI w wr g cap n p L i j M cur) (k : Nat) (hk : k < n) : ∃ y, M[k]? = some y ∧ wr.cell? ⟨g, k * 2, none⟩ = some (v1 y) ∧ wr.cell? ⟨g, k * 2 + 1, none⟩ = some (v2 y) := by
  obtain ⟨y, hy⟩ : ∃ y, M[k]? = some y := ⟨_, List.getElem?_eq_getElem (by rw [h.len]; exact hk)⟩
  obtain ⟨g1, g2⟩ := e2_get M k y hy
  refine ⟨y, hy, ?_, ?_⟩
  · rw [blk_cell h.blk, ← Array.getElem?_toList]
    rw [← h.row, List.getElem?_take, if_pos (by omega)] at g1
    exact g1
  · rw [blk_cell h.blk, ← Array.getElem?_toList]
    rw [← h.row, List.getElem?_take, if_pos (by omega)] at g2
    exact g2
theorem DelI.get {w wr : World} {g cap n : Nat} {p : E2 → Bool} {L : List E2} {i j : Nat} {M : List E2} {cur : Array Value} (h : DelI w wr g cap n p L i j M cur) {k : Nat} (hk : j ≤ k) : M[k]? = L[k]? := by
  have := congrArg (fun l => l[k - j]?) h.rest
  simpa [List.getElem?_drop, show j + (k - j) = k from by omega] using this
theorem DelI.kept {w wr wr' : World} {g cap n : Nat} {p : E2 → Bool} {L : List E2} {i j : Nat} {M : List E2} {cur : Array Value} (h : DelI w wr g cap n p L i j M cur) (k : Kp All wr wr') : DelI w wr' g cap n p L i j M cur :=
  { h with blk := k.heap h.blk trivial, kp := h.kp.trans k.all }
/-- a write that goes -/
theorem DelI.drop {w wr : World} {g cap n : Nat} {p : E2 → Bool} {L : List E2} {i j : Nat} {M : List E2} {cur : Array Value} (h : DelI w wr g cap n p L i j M cur) {x : E2} (hx : L[j]? = some x) (hp : p x = true) : DelI w wr g cap n p L i (j + 1) M cur :=
  { h with
    done := by rw [filt_take hx, hp, h.done]; simp
    rest := by
      have := congrArg (List.drop 1) h.rest
      simpa [List.drop_drop] using this }
/-- a write that stays -/
theorem DelI.stay {w wr : World} {g cap n : Nat} {p : E2 → Bool} {L : List E2} {i j : Nat} {M : List E2} {cur : Array Value} (h : DelI w wr g cap n p L i j M cur) (hij : i < j) (hjn : j < n) {x : E2} (hx : L[j]? = some x) (hp : p x = false) :
    ∃ cur', DelI w ((wr.setCell ⟨g, i * 2, none⟩ (v1 x)).setCell ⟨g, i * 2 + 1, none⟩ (v2 x)) g cap n p L (i + 1) (j + 1) (M.set i x) cur' := by
  refine ⟨_, ⟨blk_set (blk_set h.blk (i * 2) (v1 x)) (i * 2 + 1) (v2 x), by simpa using h.size, ?_, by simpa using h.len, ?_, ?_, (h.kp.setOut (by simp) _).setOut (by simp) _⟩⟩
  · rw [e2_set, ← h.row]
    simp only [Array.toList_setIfInBounds, List.take_set]
  · rw [filt_take hx, hp, ← h.done]
    have hi : i < M.length := by rw [h.len]; omega
    rw [List.take_add_one, List.getElem?_set_self hi]
    simp [List.take_set_of_le]
  · rw [List.drop_set_of_lt (by omega)]
    have := congrArg (List.drop 1) h.rest
    simpa [List.drop_drop] using this
set_option maxRecDepth 100000 in
set_option maxHeartbeats 1000000 in
theorem delfunc_any (p : E2 → Bool) (bx : Nat) (bv : Value) (n : Nat) (L : List E2) (hn : L.length = n) (hm : n ≤ 1073741824) (w : World) (hrow : w.ownsRow 0 133 2 bv n (e2 L)) (hd : Del p bx L (fun b => some b ≠ bv.ownBlock) w) :
    Calls Tryz.prog 140 #[bv, .func (.func 141) #[] #[.pointer (some ⟨bx, 0, none⟩)]] w (DelPost p bv L w) := by
  have HR := hid hrow; have HD := hid hd; have HN := hid hn
  have hs : ∀ A c, bv = .slice A n c → Foot All (Sl A n c 2 (e2 L)) w := by
    rintro A c rfl u hu
    have h1 := own_kept hrow hu (fun _ _ => trivial)
    refine ⟨by rw [e2_len, hn], ?_, fun h0 => ?_⟩
    · rcases h1.2 with ⟨e, e2⟩ | ⟨g, cap, cur, e, hb, hg, hnc, _⟩
      · injection e with e1 e3 e4; omega
      · injection e with e1 e3 e4; subst e4; exact hnc
    · rcases own_at h1 with ⟨_, e, _⟩ | ⟨g, cap, cur, e, hg, _, hat⟩
      · omega
      · injection e with e1 e3 e4
        exact ⟨g, 0, e1, fun j u hj => by rw [Nat.zero_add]; exact hat j u hj⟩
  have e1 : ∀ args w, (callFunc 141 args).run Tryz.prog w = .ok (.enter 141 args) w := en67
  by_cases hall : ∀ x ∈ L, p x = false
  · obtain ⟨A, c, rfl⟩ := own_shape hrow
    have HS := hid (hs A c rfl)
    have HALL := hid hall
    clear hs hrow hd hn hall
    go_enter Tryz.func140, Tryz.ntmps140
    go_wp2_with fail
    refine (idxfunc_any p bx A n c L HN.out (by omega) _ w HS.out HD.out).mono ?_
    rintro e w1 ⟨⟨r, rfl, hr⟩, hk⟩
    obtain rfl : r = -1 := by
      rcases hr with ⟨h, _⟩ | ⟨i, x, _, h2, h3, _⟩
      · exact h
      · rw [HALL.out x (List.mem_of_getElem? h2)] at h3; cases h3
    have HK := hid hk
    clear hr hk
    go_wp2_with fail
    go_ret
    have hf : L.filter (fun x => !p x) = L := List.filter_eq_self.2 fun x hx => by simp [HALL.out x hx]
    exact ⟨_, rfl, rfl, by rw [hf, HN.out]; exact own_kept HR.out HK.out (fun _ _ => trivial), HK.out.all⟩
  · rcases hrow.2 with ⟨rfl, e⟩ | ⟨g, cap, cur, rfl, hb, hg, hnc, hcm, hcs, htake⟩
    · exact absurd (fun x hx => by rw [List.eq_nil_of_length_eq_zero (by omega : L.length = 0)] at hx; cases hx) hall
    have HS := hid (hs _ _ rfl)
    have HALL := hid hall
    have hgb : g < w.heap.size := blk_lt hg
    have HG := hid hg; have HC := hid hcs; have HT := hid htake
    clear hs hrow hd hn hall hg hcs htake
    go_enter Tryz.func140, Tryz.ntmps140
    go_wp2_with fail
    refine (idxfunc_any p bx _ n cap L HN.out (by omega) _ w HS.out HD.out).mono ?_
    rintro e w1 ⟨⟨r, rfl, hr⟩, hk⟩
    obtain ⟨i0, x0, rfl, hi0, hp0, hnone⟩ : ∃ i x, r = (i : Nat) ∧ L[i]? = some x ∧ p x = true ∧ ∀ y ∈ L.take i, p y = false := by
      rcases hr with ⟨_, h⟩ | h
      · exact absurd h HALL.out
      · exact h
    have hi0n : i0 < n := by rw [← HN.out]; exact (List.getElem?_eq_some_iff.1 hi0).1
    have HK := hid hk; have HI := hid hi0; have HP := hid hp0; have HNO := hid hnone
    clear hr hk hi0 hp0 hnone
    have hne : ((i0 : Int) == -1) = false := beq_eq_false_iff_ne.2 (by omega)
    go_wp2_with fail
    go_loopw [5, 6] (fun ii jj wr => ∃ i j M cu, i < j ∧ j ≤ n ∧ ii = .int .i64 (i : Nat) ∧ jj = .int .i64 (j : Nat) ∧ Hid (DelI w wr g cap n p L i j M cu)) (fun _ jj _ => n - (intOf jj).toNat)
    case atStart =>
      refine ⟨i0, i0 + 1, L, cur, by omega, by omega, rfl, by go_num, ⟨HK.out.heap HG.out trivial, HC.out, HT.out, HN.out, ?_, rfl, HK.out.all⟩⟩
      rw [filt_take HI.out, HP.out]
      simp only [if_true, List.append_nil]
      exact (List.filter_eq_self.2 fun x hx => by simp [HNO.out x hx]).symm
    case round =>
      obtain ⟨i, j, M, cu, hij, hjn, rfl, rfl, hI⟩ := hrel
      by_cases hlt : j < n
      · have hb0 : decide ((j : Int) < (n : Int)) = true := decide_eq_true (by omega)
        have j0 : (0 : Int) ≤ (j : Int) := by omega
        have j1 : (j : Int) < (n : Int) := by omega
        have i0' : (0 : Int) ≤ (i : Int) := by omega
        have i1' : (i : Int) < (n : Int) := by omega
        obtain ⟨⟨x1, x2, x3, x4⟩, hx', c1, c2⟩ := hI.out.at j hlt
        have hx : L[j]? = some (x1, x2, x3, x4) := by rw [← hI.out.get (Nat.le_refl _)]; exact hx'
        unfold v1 at c1; unfold v2 at c2
        have hk1 : Kp (fun b => b ≠ g) w wr := hI.out.kp
        obtain ⟨t, ht⟩ : ∃ t, p (x1, x2, x3, x4) = t := ⟨_, rfl⟩
        have HTT := hid ht; have HX := hid hx
        have HCL : Hid (Calls Tryz.prog 141 #[.agg #[.pointer x1, .slice x2 x3 x4], .pointer (some ⟨bx, 0, none⟩)] (wr.alloc (.cells #[.pointer x1, .slice x2 x3 x4] 133)) fun e w2 => e = .returned (.bool t) ∧ Kp All (wr.alloc (.cells #[.pointer x1, .slice x2 x3 x4] 133)) w2) := hid (by
          rw [← ht]
          exact HD.out (x1, x2, x3, x4) (List.mem_of_getElem? hx) _ ((hk1.mono fun b _ hb e => hb (by rw [e]; rfl)).alloc _))
        have hbx := blk_new wr (.cells #[.pointer x1, .slice x2 x3 x4] 133)
        have HBX := hid hbx
        clear hx hx' ht hk1 hbx
        cases t
        · go_wp2_with (go_at_fn 141; refine HCL.out.mono ?_; rintro e w2 ⟨rfl, hk2⟩; have d1 := blk_cell (hk2.heap HBX.out trivial); have hI2 := hI.out.kept ((Kp.al _ _).trans hk2); have f2 := blk_free hI2.blk; obtain ⟨y, _, y1, y2⟩ := hI2.at i (by omega); have HI2 := hid hI2; clear hk2 hI2)
          obtain ⟨cu', hI3⟩ := HI2.out.stay hij hlt HX.out HTT.out
          exact ⟨⟨i + 1, j + 1, _, cu', by omega, by omega, by go_num, by go_num, hI3⟩, by simp [intOf]; omega⟩
        · go_wp2_with (go_at_fn 141; refine HCL.out.mono ?_; rintro e w2 ⟨rfl, hk2⟩; have HK2 := hid hk2; clear hk2)
          exact ⟨⟨i, j + 1, M, cu, by omega, by omega, rfl, by go_num, (hI.out.kept ((Kp.al _ _).trans HK2.out)).drop HX.out HTT.out⟩, by simp [intOf]; omega⟩
      · have hb0 : decide ((j : Int) < (n : Int)) = false := decide_eq_false (by omega)
        obtain rfl : j = n := by omega
        have hcj : j ≤ cap := hnc
        obtain ⟨vs, hvs⟩ := run_clear_w wr g (i * 2) (j - i) (cap - i) (by omega) cu _ hI.out.blk (by rw [hI.out.size]; omega)
        have i0' : (0 : Int) ≤ (i : Int) := by omega
        have i1' : (i : Int) ≤ (j : Int) := by omega
        have i2' : (i : Int) ≤ (cap : Int) := by omega
        have i3' : ¬ cap = i := by omega
        go_wp2_with fail
        go_ret
        have hI' := hI.out
        obtain ⟨cu', h1, h2, h3⟩ := blk_setCells vs (i * 2) wr cu hI'.blk
        have hLt : L.take j = L := List.take_of_length_le (by rw [HN.out]; exact Nat.le_refl _)
        have hdone := hI'.done
        rw [hLt] at hdone
        have hli : (L.filter fun x => !p x).length = i := by rw [← hdone, List.length_take, hI'.len]; omega
        refine ⟨_, rfl, rfl, ?_, (Kp.setCells (by simp) vs _ _ hI'.kp).mono fun b _ hb e => hb (by rw [e]; rfl)⟩
        rw [hli]
        refine ⟨by rw [e2_len, hli], .inr ⟨g, cap, cu', rfl, hb, h1, by omega, hcm, by rw [h2]; exact hI'.size, ?_⟩⟩
        rw [h3, ← hdone]
        have := congrArg (List.take (i * 2)) hI'.row
        rw [List.take_take, show min (i * 2) (j * 2) = i * 2 from by omega] at this
        rw [this]
        have hM : M = M.take i ++ M.drop i := (List.take_append_drop i M).symm
        have hl : (e2 (M.take i)).length = i * 2 := by rw [e2_len, List.length_take, hI'.len]; omega
        calc (e2 M).take (i * 2) = (e2 (M.take i ++ M.drop i)).take (i * 2) := by rw [← hM]
          _ = e2 (M.take i) := by rw [e2_append, List.take_append_of_le_length (by omega), List.take_of_length_le (by omega)]
end Go.Proofs.YtbkhademplgicaaGreatDoor

namespace Go.Proofs.YtbkhademplgicaaGreatDoor
open Go.RowKit
set_option linter.unusedVariables false
theorem moreOf_adel {B : List (Nm × By)} {n k : Nm} (h : k ≠ n) : moreOf (adel B n) k = moreOf B k := by
  induction B with
  | nil => rfl
  | cons x l ih =>
    unfold adel at ih ⊢
    by_cases e : x.1 = n
    · rw [List.filter_cons_of_neg (by simpa using e), ih, moreOf, if_neg (fun e2 => h (by rw [← e2]; exact e)), Nat.zero_add]
    · rw [List.filter_cons_of_pos (by simpa using e), moreOf, moreOf, ih]
theorem adel_none {β : Type} {F : List (Nm × β)} {n : Nm} (h : n ∉ F.map (·.1)) : adel F n = F := by
  unfold adel
  rw [List.filter_eq_self]
  intro x hx
  simpa using fun e => h (List.mem_map.2 ⟨x, hx, e⟩)
theorem gone_used {F B : List (Nm × By)} {n : Nm} {s : By} (hn : (F.map (·.1)).Nodup) (h : (n, s) ∈ F) : usedOf (adel F n) (adel B n) + needs (s.length + moreOf B n) = usedOf F B := by
  have h1 : usedOf (adel F n) (adel B n) = usedOf (adel F n) B := by
    unfold usedOf
    congr 1
    apply List.map_congr_left
    intro x hx
    rw [moreOf_adel (by simpa using (List.mem_filter.1 hx).2)]
  rw [h1]
  clear h1
  induction F with
  | nil => cases h
  | cons y l ih =>
    simp only [List.map_cons, List.nodup_cons] at hn
    cases h with
    | head =>
      have : adel ((n, s) :: l) n = l := by
        unfold adel
        rw [List.filter_cons_of_neg (by simp)]
        exact adel_none hn.1
      rw [this]
      simp only [usedOf, List.map_cons, List.sum_cons]
      omega
    | tail _ h =>
      have hne : y.1 ≠ n := fun e => hn.1 (e ▸ List.mem_map.2 ⟨_, h, rfl⟩)
      have := ih hn.2 h
      unfold adel at this ⊢
      rw [List.filter_cons_of_pos (by simpa using hne)]
      simp only [usedOf, List.map_cons, List.sum_cons] at this ⊢
      omega
/-- a write, as the buffer's cells have it -/
def toE2 (fp : Nm → Nat) (x : Nm × By × Value) : E2 := match x.2.2 with
  | .slice A l c => (some ⟨fp x.1, 0, none⟩, A, l, c)
  | _ => (some ⟨fp x.1, 0, none⟩, none, 0, 0)
def isF (f : Nat) (x : E2) : Bool := match x.1 with
  | some a => decide (a.block = f)
  | none => false
theorem toE2_fst (fp : Nm → Nat) (x : Nm × By × Value) : (toE2 fp x).1 = some ⟨fp x.1, 0, none⟩ := by unfold toE2; split <;> rfl
theorem wcs_e2 {w : World} {ro : Nat → Role} {fp : Nm → Nat} {B : List (Nm × By)} {bv : Value} {BV : List (Nm × By × Value)} (h : Bf w ro fp B bv BV) (BV' : List (Nm × By × Value)) (hs : ∀ x ∈ BV', x ∈ BV) : wcs fp BV' = e2 (BV'.map (toE2 fp)) := by
  induction BV' with
  | nil => rfl
  | cons x l ih =>
    obtain ⟨A, c, e⟩ := own_shape (h.data x (hs x (List.mem_cons_self ..))).1
    have := ih fun y hy => hs y (List.mem_cons_of_mem _ hy)
    simp only [wcs, e2, List.flatMap_cons, List.map_cons] at this ⊢
    rw [this]
    congr 1
    simp only [toE2, e, v1, v2]
theorem filt_e2 {fp : Nm → Nat} {n : Nm} (BV : List (Nm × By × Value)) (hinj : ∀ x ∈ BV, fp x.1 = fp n → x.1 = n) : (BV.map (toE2 fp)).filter (fun x => !isF (fp n) x) = (BV.filter fun x => x.1 ≠ n).map (toE2 fp) := by
  rw [List.filter_map]
  congr 1
  apply List.filter_congr
  intro x hx
  simp only [Function.comp, isF, toE2_fst]
  by_cases e : x.1 = n
  · simp [e]
  · have : fp x.1 ≠ fp n := fun h => e (hinj x hx h)
    simp [e, this]
theorem adel_BV {n : Nm} (BV : List (Nm × By × Value)) : adel (BV.map fun x => (x.1, x.2.1)) n = (BV.filter fun x => x.1 ≠ n).map fun x => (x.1, x.2.1) := by
  unfold adel
  rw [List.filter_map]
  rfl

set_option maxRecDepth 100000 in
theorem gone1_any (bx f fx : Nat) (A : Option Addr) (l c : Nat) (w : World) (hb : w.heap[bx]? = some (.cells #[.pointer (some ⟨f, 0, none⟩)] 105 (0, 0)))
    (cf cx : Array Value) (hf : w.heap[f]? = some (.cells cf 129 (0, 0))) (hx : w.heap[fx]? = some (.cells cx 129 (0, 0))) :
    Calls Tryz.prog 141 #[.agg #[.pointer (some ⟨fx, 0, none⟩), .slice A l c], .pointer (some ⟨bx, 0, none⟩)] w fun e w' => e = .returned (.bool (decide (fx = f))) ∧ Kp All w w' := by
  have cb := blk_cell (blk_alloc hb (.cells #[.pointer (some ⟨fx, 0, none⟩), .slice A l c] 133))
  by_cases e : fx = f
  · subst e
    have hsame := ptr_same fx
    clear hb hf hx
    go_enter Tryz.func141, Tryz.ntmps141
    go_wp2_with fail
    go_ret
    exact ⟨by simp, Kp.al _ _⟩
  · have hoth := ptr_other (w := w.alloc (.cells #[.pointer (some ⟨fx, 0, none⟩), .slice A l c] 133)) e (blk_alloc hx _) (blk_alloc hf _)
    have hd : decide (fx = f) = false := decide_eq_false e
    rw [hd]
    clear hb hf hx hd
    go_enter Tryz.func141, Tryz.ntmps141
    go_wp2_with fail
    go_ret
    exact ⟨rfl, Kp.al _ _⟩

/-- the disk behind: the file n and its writes are gone -/
theorem Dk0.goned {w wF : World} {p : Nat} {ro : Nat → Role} {D : DS} {m : Nat} {fp : Nm → Nat} {bv v : Value} {BV : List (Nm × By × Value)} (h : Dk0 w p ro D m fp bv BV) {n : Nm} {s : By} (hs : (n, s) ∈ D.F)
    (hcell : wF.heap[p]? = some (.cells (dcs D ((usedOf D.F D.B : Int) - (needs (s.length + moreOf D.B n) : Nat)) m v) 91 (0, 0)))
    (hmap : SMap wF m (adel (D.F.map fun x => (x.1, Value.pointer (some ⟨fp x.1, 0, none⟩))) n))
    (hv : v.ownBlock = bv.ownBlock) (hrow : wF.ownsRow 0 133 2 v ((BV.map (toE2 fp)).filter fun x => !isF (fp n) x).length (e2 ((BV.map (toE2 fp)).filter fun x => !isF (fp n) x)))
    (kp : Kp (fun z => z ≠ p ∧ z ≠ m ∧ some z ≠ bv.ownBlock) w wF) : Dk0 wF p ro (D.gone n) m fp v (BV.filter fun x => x.1 ≠ n) ∧ Kp (fun b => ro b = .none) w wF := by
  have hnd : (D.F.map (·.1)).Nodup := by
    have := h.map.nodup strKey
    simpa [List.map_map, Function.comp_def] using this
  have hinj : ∀ x ∈ BV, fp x.1 = fp n → x.1 = n := fun x hx e => by
    have hm := h.names (x.1, x.2.1) (by rw [h.bf.eq]; exact List.mem_map.2 ⟨x, hx, rfl⟩)
    obtain ⟨s', hs'⟩ := mem_keys hm
    exact h.fl.inj _ hs' _ hs e
  rw [filt_e2 BV hinj] at hrow
  rw [← wcs_e2 h.bf (BV.filter fun x => x.1 ≠ n) (fun x hx => (List.mem_filter.1 hx).1), List.length_map] at hrow
  have hB : (D.gone n).B = (BV.filter fun x => x.1 ≠ n).map fun x => (x.1, x.2.1) := by
    show adel D.B n = _
    rw [h.bf.eq]; exact adel_BV BV
  have hkeep : ∀ z, ro z ≠ .none → ro z ≠ .disk → ro z ≠ .map → ro z ≠ .buf → z ≠ p ∧ z ≠ m ∧ some z ≠ bv.ownBlock := fun z _ h2 h3 h4 => ⟨(fun e => h2 (e ▸ h.rp)), (fun e => h3 (e ▸ h.rm)), fun e => h4 (h.bf.role z e.symm)⟩
  have hgu := gone_used (B := D.B) hnd hs
  refine ⟨⟨?_, ?_, ⟨?_, ?_, ?_⟩, ⟨hB, ?_, ?_, ?_, ?_⟩, h.rp, h.rm, fun b hb => Nat.lt_of_lt_of_le (h.lt b hb) kp.size, ?_, h.bl, h.kw, ?_⟩, ?_⟩
  · rw [hcell]
    show some (Obj.cells (dcs D _ m v) _ _) = some (Obj.cells (dcs (D.gone n) (usedOf (adel D.F n) (adel D.B n) : Nat) m v) _ _)
    rw [show ((usedOf D.F D.B : Int) - (needs (s.length + moreOf D.B n) : Nat)) = ((usedOf (adel D.F n) (adel D.B n) : Nat) : Int) from by omega]
    rfl
  · have e : (D.gone n).F.map (fun x => (x.1, Value.pointer (some ⟨fp x.1, 0, none⟩))) = adel (D.F.map fun x => (x.1, Value.pointer (some ⟨fp x.1, 0, none⟩))) n := by
      show (adel D.F n).map _ = _
      unfold adel
      rw [List.filter_map]
      rfl
    rw [e]; exact hmap
  · intro x hx
    obtain ⟨hx1, hx2⟩ := List.mem_filter.1 hx
    obtain ⟨v, h1, h2, h3⟩ := h.fl.lie x hx1
    have hr := h.fl.role x hx1
    refine ⟨v, ?_, own_kept h2 kp fun b hb => ?_, h3⟩
    · show _ = some (Obj.cells #[v, .int .i64 (moreOf (adel D.B n) x.1 : Nat)] _ _)
      rw [moreOf_adel (by simpa using hx2)]
      exact kp.heap h1 (hkeep _ (by rw [hr]; decide) (by rw [hr]; decide) (by rw [hr]; decide) (by rw [hr]; decide))
    · have := h3 b hb
      exact hkeep b (by rw [this]; simp) (by rw [this]; simp) (by rw [this]; simp) (by rw [this]; simp)
  · exact fun x hx => h.fl.role x (List.mem_filter.1 hx).1
  · exact fun x hx y hy e => h.fl.inj x (List.mem_filter.1 hx).1 y (List.mem_filter.1 hy).1 e
  · rw [hB, List.length_map]; exact hrow
  · intro b hb
    rw [hv] at hb
    exact h.bf.role b hb
  · intro x hx
    obtain ⟨h1, h2⟩ := h.bf.data x (List.mem_filter.1 hx).1
    refine ⟨own_kept h1 kp fun b hb => ?_, h2⟩
    have := h2 b hb
    exact hkeep b (by rw [this]; simp) (by rw [this]; simp) (by rw [this]; simp) (by rw [this]; simp)
  · exact List.Nodup.sublist ((List.filter_sublist ..).filterMap _) h.bf.one
  · intro x hx
    obtain ⟨hx1, hx2⟩ := List.mem_filter.1 (show x ∈ adel D.B n from hx)
    obtain ⟨s', hs'⟩ := mem_keys (h.names x hx1)
    exact List.mem_map.2 ⟨(x.1, s'), List.mem_filter.2 ⟨hs', hx2⟩, rfl⟩
  · have := h.us
    show ((usedOf (adel D.F n) (adel D.B n) : Nat) : Int) ≤ D.blocks
    omega
  · exact kp.mono fun z _ hz => ⟨(fun e => by rw [e, h.rp] at hz; cases hz), (fun e => by rw [e, h.rm] at hz; cases hz), (fun e => by rw [h.bf.role z e.symm] at hz; cases hz)⟩
end Go.Proofs.YtbkhademplgicaaGreatDoor

namespace Go.Proofs.YtbkhademplgicaaGreatDoor
open Go.RowKit
set_option linter.unusedVariables false
set_option linter.unusedSimpArgs false
def Gone (w : World) (ro : Nat → Role) (p : Nat) (D : DS) (n : Nm) (m : Nat) (fp : Nm → Nat) (e : Ending) (w' : World) : Prop :=
  e = .returned (.tuple #[]) ∧ (∃ bv BV, Dk0 w' p ro (D.gone n) m fp bv BV) ∧ Kp (fun b => ro b = .none) w w'
set_option maxRecDepth 100000 in
set_option maxHeartbeats 2000000 in
theorem gone_any (p : Nat) (ro : Nat → Role) (D : DS) (n : Nm) (m : Nat) (fp : Nm → Nat) (bv : Value) (BV : List (Nm × By × Value)) (hbl : D.B.length ≤ 1073741824) (w : World) (h : Dk0 w p ro D m fp bv BV) :
    Calls Tryz.prog 99 #[.pointer (some ⟨p, 0, none⟩), .string n] w (Gone w ro p D n m fp) := by
  have H := hid h
  have c1 := blk_cell h.cell
  have B1 := hid h.cell
  have hp : p < w.heap.size := blk_lt h.cell
  have hmm : m < w.heap.size := h.lt m (by rw [h.rm]; decide)
  have hpm : p ≠ m := fun e => by have := h.rp; rw [e, h.rm] at this; cases this
  obtain ⟨y, hy⟩ : ∃ y, aget D.F n = y := ⟨_, rfl⟩
  have HY := hid hy
  have hz : ∀ w : World, (zeroValue 105).run Tryz.prog w = .ok (.pointer none) w := fun w => by kernel_rfl
  have hmap : (aget (D.F.map fun x => (x.1, Value.pointer (some ⟨fp x.1, 0, none⟩))) n) = y.map fun _ => Value.pointer (some ⟨fp n, 0, none⟩) := by
    rw [aget_keys D.F (fun x => Value.pointer (some ⟨fp x, 0, none⟩)), hy]
  have HMAP := hid hmap
  obtain ⟨u, hu⟩ : ∃ u, usedOf D.F D.B = u := ⟨_, rfl⟩
  have HU := hid hu
  rw [hu] at c1
  have B1 : Hid (w.heap[p]? = some (.cells (dcs D u m bv) 91 (0, 0))) := hid (by rw [← hu]; exact h.cell)
  have hus := h.us
  have hblk := h.bl
  rw [hu] at hus
  unfold dcs at c1
  clear h hy hmap hu
  cases y with
  | none =>
    have hv : (aget (D.F.map fun x => (x.1, Value.pointer (some ⟨fp x.1, 0, none⟩))) n).getD (.pointer none) = .pointer none := by rw [HMAP.out]; rfl
    have HV := hid hv
    clear hv
    go_enter Tryz.func99, Tryz.ntmps99
    go_wp2_with (at_lookup; go_loud (refine wpList_lookup_val strKey Tryz.underlying88 H.out.map n (hz _) HV.out rfl _ _ rfl rfl rfl ?_))
    go_end0
    have hF := aget_none HY.out
    have e1 : D.gone n = D := by
      have hB : adel D.B n = D.B := by
        unfold adel
        rw [List.filter_eq_self]
        intro x hx
        simpa using fun e : x.1 = n => hF (by rw [← e]; exact H.out.names x hx)
      unfold DS.gone
      rw [adel_none hF, hB]
    refine ⟨rfl, ⟨bv, BV, ?_⟩, (Kp.al _ _).all⟩
    rw [e1]
    exact H.out.kept (Kp.al _ _) fun _ _ => trivial
  | some s =>
    have hv : (aget (D.F.map fun x => (x.1, Value.pointer (some ⟨fp x.1, 0, none⟩))) n).getD (.pointer none) = .pointer (some ⟨fp n, 0, none⟩) := by rw [HMAP.out]; rfl
    have HV := hid hv
    have hs := aget_mem HY.out
    have hsz := H.out.size_le hs
    have hle := le_usedOf (B := D.B) hs
    rw [HU.out] at hle
    obtain ⟨sv, q1, q2, q3⟩ := H.out.fl.lie _ hs
    have q4 := H.out.fl.role _ hs
    simp only at q1 q2 q3 q4 hsz hle
    obtain ⟨SA, sc, rfl⟩ := own_shape q2
    obtain ⟨f, hf⟩ : ∃ f, fp n = f := ⟨_, rfl⟩
    obtain ⟨ls, hls⟩ : ∃ z, s.length = z := ⟨_, rfl⟩
    obtain ⟨mo, hmo⟩ : ∃ z, moreOf D.B n = z := ⟨_, rfl⟩
    rw [hf] at q1 q4 hv
    rw [hls, hmo] at hle hsz
    rw [hls] at q1
    rw [hmo] at q1
    have HV := hid hv
    have HF := hid hf; have HLS := hid hls; have HMO := hid hmo; have HS := hid hs
    have b2 := blk_alloc q1 (.cells #[.pointer (some ⟨f, 0, none⟩)] 105)
    have b1 := blk_alloc B1.out (.cells #[.pointer (some ⟨f, 0, none⟩)] 105)
    have b3 := blk_new w (.cells #[.pointer (some ⟨f, 0, none⟩)] 105)
    have B1a := hid b1; have B2 := hid b2; have B3 := hid b3
    have f1 := blk_free b1
    have hfl : f < w.heap.size := H.out.lt f (by rw [q4]; decide)
    have hpf : f ≠ p := fun e => by rw [e, H.out.rp] at q4; cases q4
    have hmf : f ≠ m := fun e => by rw [e, H.out.rm] at q4; cases q4
    have HQ4 := hid q4
    have hmk : ∀ (fn : Fn) (first cap : Array Value) (w : World), (Instr.makeFunc fn first cap).run Tryz.prog w = .ok (.func fn first cap) w := fun _ _ _ _ => rfl
    have hneed : needs (ls + mo) ≤ u := hle
    clear hv hf hls hmo hs q1 q2 q3 q4 b1 b2 b3
    go_enter Tryz.func99, Tryz.ntmps99
    go_wp2_with (at_lookup; go_loud (refine wpList_lookup_val strKey Tryz.underlying88 H.out.map n (hz _) HV.out rfl _ _ rfl rfl rfl ?_))
    refine RegionLast.wp_region_end_quiet (by kernel_rfl) (by kernel_rfl) (by kernel_rfl) ?_; simp only [List.length_cons, List.length_nil, Nat.zero_add, Nat.reduceAdd, Nat.reduceSub, List.take_succ_cons, List.take_zero, List.drop_succ_cons, List.drop_zero]
    repeat (go_big_quiet_step ((first | (go_at_call 102; refine (size_any f SA ls sc mo (by omega) (by omega) _ (by exact B2.out)).mono ?_; rintro e w1 ⟨rfl, q, rfl⟩; exact ⟨rfl, _, World.drewN_drewN _ _ _⟩) | (go_at_call 101; refine (needs_any _ (by omega) _).mono ?_; rintro e w2 ⟨rfl, rfl⟩; exact ⟨rfl, _, rfl⟩))))
    refine wpQuiet_nil ?_; intro _ hw'; obtain ⟨nq, hw''⟩ := hw'; subst hw''
    go_wp2_with (at_delete; go_loud (refine wpList_mapdel strKey Tryz.underlying88 (L := D.F.map fun x => (x.1, Value.pointer (some ⟨fp x.1, 0, none⟩))) (by exact H.out.map.kept (S := fun b => b ≠ p) ((((Kp.refl _ _).alloc _).drewN _).setOut (by simp) _) (Ne.symm hpm)) n rfl _ _ rfl rfl rfl ?_); intro w3 hm3 hk3; have bp3 := hk3.heap (blk_set (w := (w.alloc (.cells #[.pointer (some ⟨f, 0, none⟩)] 105)).drewN nq) (b := p) (by exact B1a.out) 1 (.int .i64 ((u : Int) - (needs (ls + mo) : Nat)))) hpm; have bb3 := hk3.heap (blk_far (w := (w.alloc (.cells #[.pointer (some ⟨f, 0, none⟩)] 105)).drewN nq) (b := w.heap.size) (by exact B3.out) (p := ⟨p, 1, none⟩) (by simp; omega) (.int .i64 ((u : Int) - (needs (ls + mo) : Nat)))) (by omega); have bf3 := hk3.heap (blk_far (w := (w.alloc (.cells #[.pointer (some ⟨f, 0, none⟩)] 105)).drewN nq) (b := f) (by exact B2.out) (p := ⟨p, 1, none⟩) hpf (.int .i64 ((u : Int) - (needs (ls + mo) : Nat)))) hmf; have k3 : Kp (fun b => b ≠ p ∧ b ≠ m) w w3 := (((((Kp.refl (fun b => b ≠ p ∧ b ≠ m) w).alloc _).drewN _).setOut (by simp) _)).trans (hk3.mono fun b _ hb => hb.2); rw [show ((dcs D (u : Int) m bv).setIfInBounds 1 (.int .i64 ((u : Int) - (needs (ls + mo) : Nat)))) = dcs D ((u : Int) - (needs (ls + mo) : Nat)) m bv from rfl] at bp3; have cp3 := blk_cell bp3; unfold dcs at cp3; have fp3 := blk_free bp3; have BP3 := hid bp3; have BB3 := hid bb3; have BF3 := hid bf3; have K3 := hid k3; have M3 := hid hm3; clear bp3 bb3 bf3 k3 hm3 hk3)
    have hbuf : ∀ z, ro z ≠ .buf → some z ≠ bv.ownBlock := fun z hz e => hz (H.out.bf.role z e.symm)
    have h3 : ∀ x ∈ BV, ∃ cx, w3.heap[fp x.1]? = some (.cells cx 129 (0, 0)) ∧ some (fp x.1) ≠ bv.ownBlock := by
      intro x hx
      have hm := H.out.names (x.1, x.2.1) (by rw [H.out.bf.eq]; exact List.mem_map.2 ⟨x, hx, rfl⟩)
      obtain ⟨s', hs'⟩ := mem_keys hm
      obtain ⟨v', g1, _, _⟩ := H.out.fl.lie _ hs'
      have g4 := H.out.fl.role _ hs'
      exact ⟨_, K3.out.heap g1 ⟨(fun e => by rw [e, H.out.rp] at g4; cases g4), (fun e => by rw [e, H.out.rm] at g4; cases g4)⟩, hbuf _ (by rw [g4]; decide)⟩
    have hbx : some w.heap.size ≠ bv.ownBlock := hbuf _ (by rw [H.out.rnew _ (Nat.le_refl _)]; decide)
    have hff : some f ≠ bv.ownBlock := hbuf _ (by rw [HQ4.out]; decide)
    have hpb : some p ≠ bv.ownBlock := hbuf _ (by rw [H.out.rp]; decide)
    have hmb : some m ≠ bv.ownBlock := hbuf _ (by rw [H.out.rm]; decide)
    have hdel : Del (isF f) w.heap.size (BV.map (toE2 fp)) (fun b => some b ≠ bv.ownBlock) w3 := by
      intro x hx w4 k4
      obtain ⟨y, hy, rfl⟩ := List.mem_map.1 hx
      obtain ⟨cx, g1, g2⟩ := h3 y hy
      have := gone1_any w.heap.size f (fp y.1) (toE2 fp y).2.1 (toE2 fp y).2.2.1 (toE2 fp y).2.2.2 w4 (k4.heap BB3.out hbx) _ _ (k4.heap BF3.out hff) (k4.heap g1 g2)
      unfold v1 v2 isF
      rw [toE2_fst]
      exact this
    have hrow3 : w3.ownsRow 0 133 2 bv D.B.length (e2 (BV.map (toE2 fp))) := by
      rw [← wcs_e2 H.out.bf BV (fun _ h => h)]
      exact own_kept H.out.bf.row K3.out (fun b hb => ⟨(fun e => hpb (by rw [← e]; exact hb.symm)), (fun e => hmb (by rw [← e]; exact hb.symm))⟩)
    refine (delfunc_any (isF f) w.heap.size bv D.B.length (BV.map (toE2 fp)) (by rw [List.length_map, H.out.bf.eq, List.length_map]) hbl w3 hrow3 hdel).mono ?_
    rintro e w4 ⟨v, rfl, hvo, hrow4, hk4⟩
    obtain ⟨VA, vc, rfl⟩ := own_shape hrow4
    have bp4 := hk4.heap BP3.out hpb
    have cp4 := blk_cell bp4
    have fp4 := blk_free bp4
    have hp4 : p < w4.heap.size := blk_lt bp4
    have k4 : Kp (fun z => z ≠ p ∧ z ≠ m ∧ some z ≠ bv.ownBlock) w w4 := (K3.out.mono (T := fun z => z ≠ p ∧ z ≠ m ∧ some z ≠ bv.ownBlock) fun _ _ h => ⟨h.1, h.2.1⟩).trans (hk4.mono fun _ _ h => h.2.2)
    have m4 : SMap w4 m _ := M3.out.kept hk4 hmb
    obtain ⟨vn, hvn⟩ : ∃ z, ((BV.map (toE2 fp)).filter fun x => !isF f x).length = z := ⟨_, rfl⟩
    rw [hvn] at hvo hrow4 ⊢
    have BP4 := hid bp4; have VO := hid hvo; have ROW := hid hrow4; have K4 := hid k4; have M4 := hid m4; have HVN := hid hvn
    unfold dcs at cp4
    clear hdel hrow3 h3 hbuf hvo hrow4 bp4 hk4 k4 m4 hvn hbx hff hmb cp3 fp3 c1 f1
    go_wp2_with fail
    go_end0
    have b5 := blk_set BP4.out 3 (.slice VA vn vc)
    have k5 : Kp (fun z => z ≠ p) w4 (w4.setCell ⟨p, 3, none⟩ (.slice VA vn vc)) := (Kp.refl _ _).setOut (by simp) _
    have hro := own_kept ROW.out k5 (fun b hb e => hpb (by rw [← e, ← VO.out]; exact hb.symm))
    obtain ⟨g1, g2⟩ := H.out.goned (wF := w4.setCell ⟨p, 3, none⟩ (.slice VA vn vc)) (v := .slice VA vn vc) HS.out (by rw [b5, HU.out, HLS.out, HMO.out]; rfl) (M4.out.kept k5 (Ne.symm hpm)) VO.out (by rw [HF.out, HVN.out]; exact hro) (K4.out.setOut (by simp) _)
    exact ⟨rfl, ⟨_, _, g1⟩, g2⟩
end Go.Proofs.YtbkhademplgicaaGreatDoor

namespace Go.Proofs.YtbkhademplgicaaGreatDoor
open Go.RowKit
set_option linter.unusedVariables false
theorem Nx.from {w w1 w2 : World} {ro : Nat → Role} {p : Nat} {D' : DS} (k : Kp (fun b => ro b = .none) w w1) (h : Nx w1 ro p D' w2) : Nx w ro p D' w2 := Nx.trans ⟨ro, fun _ _ h => h, k, h⟩
set_option maxRecDepth 100000 in
set_option maxHeartbeats 1000000 in
theorem create1_old (p : Nat) (ro : Nat → Role) (D : DS) (n : Nm) (s : By) (db nb : Nat) (hbB : D.B.length ≤ 1073741824) (w : World) (h : Dk w p ro D) (hn : aget D.F n = some s)
    (b4 : w.heap[nb]? = some (.cells #[.string n] 9 (0, 0))) (b5 : w.heap[db]? = some (.cells #[.pointer (some ⟨p, 0, none⟩)] 51 (0, 0))) (r4 : ro nb = .none) (r5 : ro db = .none) :
    Calls Tryz.prog 98 #[.pointer (some ⟨db, 0, none⟩), .pointer (some ⟨nb, 0, none⟩)] w (Op1 w ro p 0 ((D.gone n).add n)) := by
  obtain ⟨m, fp, bv, BV, h⟩ := h
  have H := hid h
  have b1 := h.cell
  have hs := aget_mem hn
  have hnd : (D.F.map (·.1)).Nodup := by
    have := h.map.nodup strKey
    simpa [List.map_map, Function.comp_def] using this
  have hlt : Hid ((usedOf (D.gone n).F (D.gone n).B : Int) < (D.gone n).blocks) := hid (by
    have := gone_used (B := D.B) hnd hs
    have h2 := h.us
    have h3 : 0 < needs (s.length + moreOf D.B n) := by unfold needs; omega
    show ((usedOf (adel D.F n) (adel D.B n) : Nat) : Int) < D.blocks
    omega)
  have HG : Hid (aget (D.gone n).F n = none) := hid (aget_adel_same D.F n)
  have hv : (aget (D.F.map fun x => (x.1, Value.pointer (some ⟨fp x.1, 0, none⟩))) n).getD (.pointer none) = .pointer (some ⟨fp n, 0, none⟩) := by rw [aget_keys D.F (fun x => Value.pointer (some ⟨fp x, 0, none⟩)), hn]; rfl
  have hz : ∀ w : World, (zeroValue 105).run Tryz.prog w = .ok (.pointer none) w := fun w => by kernel_rfl
  have hlk := fun k => ((h.map.all ((Kp.refl All w).drewN k)).lookup strKey Tryz.underlying88 n (.pointer none) (hz _)).2
  rw [hv] at hlk
  have c1 := blk_cell b1; have c4 := blk_cell b4; have c5 := blk_cell b5
  have B4 := hid b4; have B5 := hid b5
  have hmm : ro m = .map := h.rm
  have hpm : p ≠ m := fun e => by have := h.rp; rw [e, h.rm] at this; cases this
  have n4m : nb ≠ m := fun e => by rw [e, h.rm] at r4; cases r4
  have n5m : db ≠ m := fun e => by rw [e, h.rm] at r5; cases r5
  have R4 := hid r4; have R5 := hid r5; have RM := hid hmm
  unfold dcs at c1
  clear h hn hv b1 b4 b5 hs hnd r4 r5 hmm
  go_enter Tryz.func98, Tryz.ntmps98
  go_wp2_with fail
  go_quiet (fail)
  generalize nq = qa
  go_wp2_with fail
  refine (gone_any p ro D n m fp bv BV hbB (w.drewN qa) (H.out.kept ((Kp.refl All w).drewN qa) fun _ _ => trivial)).mono ?_
  rintro e W ⟨rfl, ⟨bv2, BV2, hD2⟩, kG⟩
  have H2 := hid hD2
  have kG' : Kp (fun b => ro b = .none) w W := ((Kp.refl _ w).drewN qa).trans kG
  have KG := hid kG'
  have b1 := hD2.cell
  have b4 := kG'.heap B4.out R4.out
  have b5 := kG'.heap B5.out R5.out
  obtain ⟨u, hu⟩ : ∃ u, usedOf (D.gone n).F (D.gone n).B = u := ⟨_, rfl⟩
  have HU := hid hu
  rw [hu] at b1
  have hbl := hD2.us
  have hbl2 := hD2.bl
  rw [hu] at hbl
  have c1 := blk_cell b1; have c4 := blk_cell b4; have c5 := blk_cell b5
  have f1 := blk_free b1
  have B1 := hid b1; have B4' := hid b4; have B5' := hid b5
  have hp : p < W.heap.size := blk_lt b1
  have hm : m < W.heap.size := hD2.lt m (by rw [RM.out]; decide)
  have hdb : db < W.heap.size := blk_lt b5
  have hnb : nb < W.heap.size := blk_lt b4
  have k1 : Kp All W (W.alloc (.cells #[.slice none 0 0, .int .i64 0] 129)).drew := ((Kp.refl _ _).alloc _).drew
  have b1' := k1.heap b1 trivial
  have b4' := k1.heap b4 trivial
  have b5' := k1.heap b5 trivial
  have b6 : (W.alloc (.cells #[.slice none 0 0, .int .i64 0] 129)).drew.heap[W.heap.size]? = some (.cells #[.slice none 0 0, .int .i64 0] 129) := blk_new W (.cells #[.slice none 0 0, .int .i64 0] 129)
  obtain ⟨w3, hr3, hm3, hk3⟩ := KMap.update2 strKey Tryz.underlying88 (hD2.map.all k1) n (.pointer (some ⟨W.heap.size, 0, none⟩))
  have cA := blk_cell (hk3.heap b1' hpm)
  have cB := blk_cell (hk3.heap b4' n4m)
  have cC := blk_cell (hk3.heap b5' n5m)
  have fA := blk_free (hk3.heap b1' hpm)
  have cA2 := blk_cell b1'
  have cB2 := blk_cell b4'
  have cC2 := blk_cell b5'
  have hWm : W.heap.size ≠ m := by omega
  have B13 := hid (hk3.heap b1' hpm)
  have B63 := hid (hk3.heap b6 hWm)
  have K13 := hid k1; have M3 := hid hm3; have HK3 := hid hk3
  unfold dcs at c1 cA cA2
  obtain ⟨blks, hblks⟩ : ∃ z, (D.gone n).blocks = z := ⟨_, rfl⟩
  clear hD2 kG kG' hu b1 b4 b5 b1' b4' b5' b6 k1 hm3 hk3 hlk
  go_wp2_with fail
  go_region_held3 (fun w' => (∀ i, w'.cell? ⟨p, i, none⟩ = (#[.int .i64 (D.gone n).blocks, .int .i64 u, .map (some m), bv2, .bool (D.gone n).off, .int .i64 (D.gone n).ops, .int .i64 (D.gone n).fails, .int .i64 (D.gone n).keep] : Array Value)[i]?) ∧ (∀ i, w'.cell? ⟨nb, i, none⟩ = (#[.string n] : Array Value)[i]?) ∧ (∀ i, w'.cell? ⟨db, i, none⟩ = (#[.pointer (some ⟨p, 0, none⟩)] : Array Value)[i]?))
    (first | exact ⟨c1, c4, c5⟩ | exact ⟨cA2, cB2, cC2⟩ | exact ⟨cA, cB, cC⟩)
    (fail)
  go_wp2_with fail
  go_ret
  have hcellF := blk_set B13.out 1 (.int .i64 ((u : Int) + 1))
  refine ⟨rfl, Nx.from KG.out ?_⟩
  have hl := hlt.out
  rw [HU.out] at hl
  refine H2.out.added (N := W.heap.size) HG.out (Nat.le_refl _) ?_ (M3.out.kept (S := fun z => z ≠ p) ((Kp.refl _ _).setOut (by simp) _) (Ne.symm hpm)) (blk_far B63.out (by simp; omega) _) (((K13.out.mono fun _ _ _ => trivial).trans (HK3.out.mono fun z _ hz => hz.2)).setOut (by simp) _) (by rw [HU.out]; exact hl)
  rw [HU.out]
  exact hcellF
end Go.Proofs.YtbkhademplgicaaGreatDoor

namespace Go.Proofs.YtbkhademplgicaaGreatDoor
open Go.RowKit
set_option linter.unusedVariables false
def creErr1 (D : DS) (n : Nm) : Int := match aget D.F n with
  | some _ => 0
  | none => createErr1 D
def creD1 (D : DS) (n : Nm) : DS := match aget D.F n with
  | some _ => (D.gone n).add n
  | none => createD1 D n
def creErr (D : DS) (n : Nm) : Int := if D.off then 9 else if goodB n then (if D.fit then creErr1 D n else 9) else 3
def creD (D : DS) (n : Nm) : DS := if D.off then D else if goodB n then (if D.fit then creD1 D.begun n else D.begun) else D
theorem create1_any (p : Nat) (ro : Nat → Role) (D : DS) (n : Nm) (db nb : Nat) (w : World) (h : Dk w p ro D) (hbB : D.B.length ≤ 1073741824)
    (b4 : w.heap[nb]? = some (.cells #[.string n] 9 (0, 0))) (b5 : w.heap[db]? = some (.cells #[.pointer (some ⟨p, 0, none⟩)] 51 (0, 0))) (r4 : ro nb = .none) (r5 : ro db = .none) :
    Calls Tryz.prog 98 #[.pointer (some ⟨db, 0, none⟩), .pointer (some ⟨nb, 0, none⟩)] w (Op1 w ro p (creErr1 D n) (creD1 D n)) := by
  unfold creErr1 creD1
  cases hn : aget D.F n with
  | none => exact create1_new p ro D n db nb w h hn b4 b5 r4 r5
  | some s => exact create1_old p ro D n s db nb hbB w h hn b4 b5 r4 r5
set_option maxRecDepth 100000 in
set_option maxHeartbeats 1000000 in
theorem create_any (p : Nat) (ro : Nat → Role) (D : DS) (hok : D.Ok) (n : Nm) (hsz : n.size ≤ 9223372036854775806) (w : World) (h : Dk w p ro D) :
    Calls Tryz.prog 56 #[.pointer (some ⟨p, 0, none⟩), .string n] w (Op1 w ro p (creErr D n) (creD D n)) := by
  have HD := hid h
  obtain ⟨m, fp, bv, BV, h⟩ := h
  have H := hid h
  have hp := blk_lt h.cell
  have B1 := hid h.cell
  obtain ⟨bo, hbo⟩ : ∃ x, D.off = x := ⟨_, rfl⟩
  have HBO := hid hbo
  have hmf : ∀ (fn : Fn) (first cap : Array Value) (w : World), (Instr.makeFunc fn first cap).run Tryz.prog w = .ok (.func fn first cap) w := fun _ _ _ _ => rfl
  clear h hbo
  cases bo
  · obtain ⟨gb, hgb⟩ : ∃ x, goodB n = x := ⟨_, rfl⟩
    have HG := hid hgb
    clear hgb
    cases gb
    · go_enter Tryz.func56, Tryz.ntmps56
      go_wp2_with fail
      refine (may_any p m D _ bv _ (by exact blk_alloc (blk_alloc B1.out _) _)).mono ?_
      rintro e w1 ⟨rfl, rfl⟩
      rw [show mayErr D = 0 from by rw [mayErr, HBO.out]; rfl]
      go_wp2_with fail
      refine (good_any n hsz _).mono ?_
      rintro e w1 ⟨rfl, rfl⟩
      rw [HG.out]
      go_wp2_with fail
      go_ret
      exact ⟨by rw [creErr, HBO.out, HG.out]; rfl, by rw [creD, HBO.out, HG.out]; exact HD.out.nx ((Kp.al _ _).alloc _)⟩
    · go_enter Tryz.func56, Tryz.ntmps56
      go_wp2_with fail
      refine (may_any p m D _ bv _ (by exact blk_alloc (blk_alloc B1.out _) _)).mono ?_
      rintro e w1 ⟨rfl, rfl⟩
      rw [show mayErr D = 0 from by rw [mayErr, HBO.out]; rfl]
      go_wp2_with fail
      refine (good_any n hsz _).mono ?_
      rintro e w1 ⟨rfl, rfl⟩
      rw [HG.out]
      go_wp2_with fail
      have hk3 : Kp All w ((w.alloc (.cells #[.pointer (some ⟨p, 0, none⟩)] 51)).alloc (.cells #[.string n] 9)) := (Kp.al _ _).alloc _
      have H3 := H.out.kept hk3 (fun _ _ => trivial)
      have hc : D.fit = true → ∀ w1, Dk0 w1 p ro D.begun m fp bv BV → Kp (fun b => b ≠ p) ((w.alloc (.cells #[.pointer (some ⟨p, 0, none⟩)] 51)).alloc (.cells #[.string n] 9)) w1 → Calls Tryz.prog 98 #[.pointer (some ⟨w.heap.size, 0, none⟩), .pointer (some ⟨w.heap.size + 1, 0, none⟩)] w1 (Op1 w ro p (creErr1 D.begun n) (creD1 D.begun n)) := by
        intro hfit w1 h1 k1
        obtain ⟨eF, eB, eb, eo⟩ := begun_fit hfit
        have kk : Kp (fun z => ro z = .none) w w1 := hk3.all.trans (k1.mono fun z _ hz => ndisk H.out.rp z hz)
        have x1 := blk_new w (.cells #[.pointer (some ⟨p, 0, none⟩)] 51)
        have x2 := blk_new (w.alloc (.cells #[.pointer (some ⟨p, 0, none⟩)] 51)) (.cells #[.string n] 9)
        rw [World.size_alloc] at x2
        have := (create1_any p ro D.begun n w.heap.size (w.heap.size + 1) w1 ⟨m, fp, bv, BV, h1⟩ (by rw [eB]; exact hok.bl) (k1.heap x2 (by omega)) (k1.heap (blk_alloc x1 _) (by omega)) (H.out.rnew _ (by omega)) (H.out.rnew _ (by omega)))
        exact this.mono fun e w' h => h.pre kk
      refine (does_any p ro D hok.o0 hok.o1 hok.f1 _ m fp bv BV H3 98 _ en35 (Op1 w ro p (creErr1 D.begun n) (creD1 D.begun n)) (fun _ _ h => h.num) hc).mono ?_
      rintro e w1 ⟨hn1, hn2⟩
      cases hfit : D.fit with
      | false =>
        obtain ⟨rfl, hnx⟩ := hn1 hfit
        have HNX := hid hnx
        have HFT := hid hfit
        clear hn1 hn2 hnx hfit hc H3
        go_wp2_with fail
        go_ret
        refine ⟨?_, ?_⟩
        · rw [creErr, HBO.out, HG.out]; simp [HFT.out]
        · rw [creD, HBO.out, HG.out]
          simp only [HFT.out, Bool.false_eq_true, if_false, if_true]
          exact Nx.pre hk3 HNX.out
      | true =>
        obtain ⟨rfl, hp2⟩ := hn2 hfit
        obtain ⟨eF, eB, eb, eo⟩ := begun_fit hfit
        have HP2 := hid hp2
        have HFT := hid hfit
        have HE : Hid (creErr1 D.begun n = creErr1 D n) := hid (by unfold creErr1 createErr1; rw [eF, eB, eb])
        clear hn1 hn2 hp2 hfit hc H3 eF eB eb eo
        go_wp2_with fail
        go_ret
        refine ⟨?_, ?_⟩
        · rw [creErr, HBO.out, HG.out]; simp [HFT.out, HE.out]
        · rw [creD, HBO.out, HG.out]
          simp only [HFT.out, if_true, Bool.false_eq_true, if_false]
          exact HP2.out
  · go_enter Tryz.func56, Tryz.ntmps56
    go_wp2_with fail
    refine (may_any p m D _ bv _ (by exact blk_alloc (blk_alloc B1.out _) _)).mono ?_
    rintro e w1 ⟨rfl, rfl⟩
    rw [show mayErr D = 9 from by rw [mayErr, HBO.out]; rfl]
    go_wp2_with fail
    go_ret
    exact ⟨by rw [creErr, HBO.out]; rfl, by rw [creD, HBO.out]; exact HD.out.nx ((Kp.al _ _).alloc _)⟩

end Go.Proofs.YtbkhademplgicaaGreatDoor

namespace Go.Proofs.YtbkhademplgicaaGreatDoor
open Go.RowKit
set_option linter.unusedVariables false
def armErr (D : DS) : Int := if D.off then 9 else 0
def armD (D : DS) (n k : Int) : DS := if D.off then D else { D with fails := n, keep := k }
set_option maxRecDepth 100000 in
theorem arm_any (p : Nat) (ro : Nat → Role) (D : DS) (n k : Int) (hk : k ≤ 9223372036854775807) (w : World) (h : Dk w p ro D) :
    Calls Tryz.prog 23 #[.pointer (some ⟨p, 0, none⟩), .int .i64 n, .int .i64 k] w (Op1 w ro p (armErr D) (armD D n k)) := by
  have HD := hid h
  obtain ⟨m, fp, bv, BV, h⟩ := h
  have H := hid h
  have c1 := blk_cell h.cell
  have f1 := blk_free h.cell
  have B1 := hid h.cell
  unfold dcs at c1
  obtain ⟨bo, hbo⟩ : ∃ x, D.off = x := ⟨_, rfl⟩
  have HBO := hid hbo
  clear h hbo
  cases bo
  · go_enter Tryz.func23, Tryz.ntmps23
    go_wp2_with fail
    refine (may_any p m D _ bv _ B1.out).mono ?_
    rintro e w1 ⟨rfl, rfl⟩
    rw [show mayErr D = 0 from by rw [mayErr, HBO.out]; rfl]
    go_wp2_with fail
    go_ret
    have b2 := blk_set (blk_set B1.out 6 (.int .i64 n)) 7 (.int .i64 k)
    have k1 : Kp (fun b => b ≠ p) w ((w.setCell ⟨p, 6, none⟩ (.int .i64 n)).setCell ⟨p, 7, none⟩ (.int .i64 k)) := ((Kp.refl _ _).setOut (by simp) _).setOut (by simp) _
    refine ⟨by rw [armErr, HBO.out]; rfl, ?_⟩
    rw [armD, if_neg (by rw [HBO.out]; decide)]
    exact Nx.of ⟨m, fp, bv, BV, H.out.cellset (D' := { D with fails := n, keep := k }) (k := k1) b2 rfl rfl rfl hk⟩ (S := fun b => b ≠ p) k1 (ndisk H.out.rp)
  · go_enter Tryz.func23, Tryz.ntmps23
    go_wp2_with fail
    refine (may_any p m D _ bv _ B1.out).mono ?_
    rintro e w1 ⟨rfl, rfl⟩
    rw [show mayErr D = 9 from by rw [mayErr, HBO.out]; rfl]
    go_wp2_with fail
    go_ret
    exact ⟨by rw [armErr, HBO.out]; rfl, by rw [armD, HBO.out]; exact HD.out.nx (Kp.refl _ _)⟩
set_option maxRecDepth 100000 in
theorem remove1_any (p : Nat) (ro : Nat → Role) (D : DS) (n : Nm) (db nb : Nat) (w : World) (h : Dk w p ro D) (hbB : D.B.length ≤ 1073741824)
    (b4 : w.heap[nb]? = some (.cells #[.string n] 9 (0, 0))) (b5 : w.heap[db]? = some (.cells #[.pointer (some ⟨p, 0, none⟩)] 51 (0, 0))) :
    Calls Tryz.prog 109 #[.pointer (some ⟨db, 0, none⟩), .pointer (some ⟨nb, 0, none⟩)] w (Op1 w ro p 0 (D.gone n)) := by
  obtain ⟨m, fp, bv, BV, h⟩ := h
  have H := hid h
  have c4 := blk_cell b4; have c5 := blk_cell b5
  clear h b4 b5
  go_enter Tryz.func109, Tryz.ntmps109
  go_wp2_with fail
  refine (gone_any p ro D n m fp bv BV hbB w H.out).mono ?_
  rintro e W ⟨rfl, ⟨bv2, BV2, hD2⟩, kG⟩
  have H2 := hid hD2; have KG := hid kG
  clear hD2 kG
  go_wp2_with fail
  go_ret
  exact ⟨rfl, ro, ⟨m, fp, bv2, BV2, H2.out⟩, fun _ _ h => h, KG.out⟩

def remErr (D : DS) (n : Nm) : Int := if D.off then 9 else match aget D.F n with
  | none => 4
  | some _ => if D.fit then 0 else 9
def remD (D : DS) (n : Nm) : DS := if D.off then D else match aget D.F n with
  | none => D
  | some _ => if D.fit then D.begun.gone n else D.begun
theorem en47 : Enters Tryz.prog 109 := enters_of Tryz.func109 (by kernel_rfl) rfl
set_option maxRecDepth 100000 in
set_option maxHeartbeats 1000000 in
theorem remove_any (p : Nat) (ro : Nat → Role) (D : DS) (hok : D.Ok) (n : Nm) (w : World) (h : Dk w p ro D) :
    Calls Tryz.prog 64 #[.pointer (some ⟨p, 0, none⟩), .string n] w (Op1 w ro p (remErr D n) (remD D n)) := by
  have HD := hid h
  obtain ⟨m, fp, bv, BV, h⟩ := h
  have H := hid h
  have b1 := h.cell
  have B1 := hid h.cell
  have c1 := blk_cell (blk_alloc (blk_alloc b1 (.cells #[.pointer (some ⟨p, 0, none⟩)] 51)) (.cells #[.string n] 9))
  obtain ⟨bo, hbo⟩ : ∃ x, D.off = x := ⟨_, rfl⟩
  obtain ⟨y, hy⟩ : ∃ y, aget D.F n = y := ⟨_, rfl⟩
  have HBO := hid hbo; have HY := hid hy
  have hmf : ∀ (fn : Fn) (first cap : Array Value) (w : World), (Instr.makeFunc fn first cap).run Tryz.prog w = .ok (.func fn first cap) w := fun _ _ _ _ => rfl
  unfold dcs at c1
  have hz : ∀ w : World, (zeroValue 105).run Tryz.prog w = .ok (.pointer none) w := fun w => by kernel_rfl
  have hp : p < w.heap.size := blk_lt b1
  have hk3 : Kp All w ((w.alloc (.cells #[.pointer (some ⟨p, 0, none⟩)] 51)).alloc (.cells #[.string n] 9)) := (Kp.al _ _).alloc _
  have hlk := fun k => ((h.map.all (hk3.drewN k)).lookup strKey Tryz.underlying88 n (.pointer none) (hz _)).2
  rw [aget_keys D.F (fun x => Value.pointer (some ⟨fp x, 0, none⟩)), hy] at hlk
  have HK3 := hid hk3
  clear h hbo hy b1 hk3
  cases bo
  · cases y with
    | none =>
      simp only [Option.map_none, Option.getD_none] at hlk
      go_enter Tryz.func64, Tryz.ntmps64
      go_wp2_with fail
      refine (may_any p m D _ bv _ (by exact blk_alloc (blk_alloc B1.out _) _)).mono ?_
      rintro e w1 ⟨rfl, rfl⟩
      rw [show mayErr D = 0 from by rw [mayErr, HBO.out]; rfl]
      go_wp2_with fail
      go_quiet (fail)
      go_wp2_with fail
      go_ret
      exact ⟨by rw [remErr, HBO.out, HY.out]; rfl, by rw [remD, HBO.out, HY.out]; exact HD.out.nx (HK3.out.drewN _)⟩
    | some s =>
      simp only [Option.map_some, Option.getD_some] at hlk
      go_enter Tryz.func64, Tryz.ntmps64
      go_wp2_with fail
      refine (may_any p m D _ bv _ (by exact blk_alloc (blk_alloc B1.out _) _)).mono ?_
      rintro e w1 ⟨rfl, rfl⟩
      rw [show mayErr D = 0 from by rw [mayErr, HBO.out]; rfl]
      go_wp2_with fail
      go_quiet (fail)
      generalize nq = qa
      go_wp2_with fail
      have hk4 : Kp All w (((w.alloc (.cells #[.pointer (some ⟨p, 0, none⟩)] 51)).alloc (.cells #[.string n] 9)).drewN qa) := HK3.out.drewN qa
      have H3 := H.out.kept hk4 (fun _ _ => trivial)
      have hc : D.fit = true → ∀ w1, Dk0 w1 p ro D.begun m fp bv BV → Kp (fun b => b ≠ p) (((w.alloc (.cells #[.pointer (some ⟨p, 0, none⟩)] 51)).alloc (.cells #[.string n] 9)).drewN qa) w1 → Calls Tryz.prog 109 #[.pointer (some ⟨w.heap.size, 0, none⟩), .pointer (some ⟨w.heap.size + 1, 0, none⟩)] w1 (Op1 w ro p 0 (D.begun.gone n)) := by
        intro hfit w1 h1 k1
        obtain ⟨eF, eB, eb, eo⟩ := begun_fit hfit
        have kk : Kp (fun z => ro z = .none) w w1 := hk4.all.trans (k1.mono fun z _ hz => ndisk H.out.rp z hz)
        have x1 := blk_new w (.cells #[.pointer (some ⟨p, 0, none⟩)] 51)
        have x2 := blk_new (w.alloc (.cells #[.pointer (some ⟨p, 0, none⟩)] 51)) (.cells #[.string n] 9)
        rw [World.size_alloc] at x2
        have := (remove1_any p ro D.begun n w.heap.size (w.heap.size + 1) w1 ⟨m, fp, bv, BV, h1⟩ (by rw [eB]; exact hok.bl) (k1.heap (by exact x2) (by omega)) (k1.heap (by exact blk_alloc x1 _) (by omega)))
        exact this.mono fun e w' h => h.pre kk
      refine (does_any p ro D hok.o0 hok.o1 hok.f1 _ m fp bv BV H3 109 _ en47 (Op1 w ro p 0 (D.begun.gone n)) (fun _ _ h => h.num) hc).mono ?_
      rintro e w1 ⟨hn1, hn2⟩
      cases hfit : D.fit with
      | false =>
        obtain ⟨rfl, hnx⟩ := hn1 hfit
        have HNX := hid hnx
        have HFT := hid hfit
        clear hn1 hn2 hnx hfit hc H3
        go_wp2_with fail
        go_ret
        refine ⟨?_, ?_⟩
        · rw [remErr, HBO.out, HY.out]; simp [HFT.out]
        · rw [remD, HBO.out, HY.out]
          simp only [HFT.out, Bool.false_eq_true, if_false, if_true]
          exact Nx.pre hk4 HNX.out
      | true =>
        obtain ⟨rfl, hp2⟩ := hn2 hfit
        have HP2 := hid hp2
        have HFT := hid hfit
        clear hn1 hn2 hp2 hfit hc H3
        go_wp2_with fail
        go_ret
        refine ⟨?_, ?_⟩
        · rw [remErr, HBO.out, HY.out]; simp [HFT.out]
        · rw [remD, HBO.out, HY.out]
          simp only [HFT.out, if_true, Bool.false_eq_true, if_false]
          exact HP2.out
  · go_enter Tryz.func64, Tryz.ntmps64
    go_wp2_with fail
    refine (may_any p m D _ bv _ (by exact blk_alloc (blk_alloc B1.out _) _)).mono ?_
    rintro e w1 ⟨rfl, rfl⟩
    rw [show mayErr D = 9 from by rw [mayErr, HBO.out]; rfl]
    go_wp2_with fail
    go_ret
    exact ⟨by rw [remErr, HBO.out]; rfl, by rw [remD, HBO.out]; exact HD.out.nx HK3.out⟩
end Go.Proofs.YtbkhademplgicaaGreatDoor
