/- The disk: gone: a file goes, with its writes. What it leaves, in plain Lean; the closure, walked once. No condition on the disk but that it lies as Dk says. -/
import Derived.Test.YtdlbccjimdghkaaDX
namespace Go.Proofs.Ytdlbccjimdghkaa
open Go.RowKit
set_option linter.unusedVariables false
theorem moreOf_adel {B : List (Nm × By)} {n k : Nm} (h : k ≠ n) : moreOf (adel B n) k = moreOf B k := by
  induction B with
  | nil => rfl
  | cons x l ih =>
    unfold adel at ih ⊢
    by_cases e : x.1 = n
    · rw [List.filter_cons_of_neg (by simpa using e), ih, moreOf, if_neg (fun e2 => h (by rw [← e2]; exact e)), Nat.zero_add]
    · rw [List.filter_cons_of_pos (by simpa using e), moreOf, moreOf, ih]
theorem adel_none {β : Type} {F : List (Nm × β)} {n : Nm} (h : n ∉ F.map (·.1)) : adel F n = F := by
  unfold adel
  rw [List.filter_eq_self]
  intro x hx
  simpa using fun e => h (List.mem_map.2 ⟨x, hx, e⟩)
theorem gone_used {F B : List (Nm × By)} {n : Nm} {s : By} (hn : (F.map (·.1)).Nodup) (h : (n, s) ∈ F) : usedOf (adel F n) (adel B n) + needs (s.length + moreOf B n) = usedOf F B := by
  have h1 : usedOf (adel F n) (adel B n) = usedOf (adel F n) B := by
    unfold usedOf
    congr 1
    apply List.map_congr_left
    intro x hx
    rw [moreOf_adel (by simpa using (List.mem_filter.1 hx).2)]
  rw [h1]
  clear h1
  induction F with
  | nil => cases h
  | cons y l ih =>
    simp only [List.map_cons, List.nodup_cons] at hn
    cases h with
    | head =>
      have : adel ((n, s) :: l) n = l := by
        unfold adel
        rw [List.filter_cons_of_neg (by simp)]
        exact adel_none hn.1
      rw [this]
      simp only [usedOf, List.map_cons, List.sum_cons]
      omega
    | tail _ h =>
      have hne : y.1 ≠ n := fun e => hn.1 (e ▸ List.mem_map.2 ⟨_, h, rfl⟩)
      have := ih hn.2 h
      unfold adel at this ⊢
      rw [List.filter_cons_of_pos (by simpa using hne)]
      simp only [usedOf, List.map_cons, List.sum_cons] at this ⊢
      omega
/-- a write, as the buffer's cells have it -/
def toE2 (fp : Nm → Nat) (x : Nm × By × Value) : E2 := match x.2.2 with
  | .slice A l c => (some ⟨fp x.1, 0, none⟩, A, l, c)
  | _ => (some ⟨fp x.1, 0, none⟩, none, 0, 0)
def isF (f : Nat) (x : E2) : Bool := match x.1 with
  | some a => decide (a.block = f)
  | none => false
theorem toE2_fst (fp : Nm → Nat) (x : Nm × By × Value) : (toE2 fp x).1 = some ⟨fp x.1, 0, none⟩ := by unfold toE2; split <;> rfl
theorem wcs_e2 {w : World} {ro : Nat → Role} {fp : Nm → Nat} {B : List (Nm × By)} {bv : Value} {BV : List (Nm × By × Value)} (h : Bf w ro fp B bv BV) (BV' : List (Nm × By × Value)) (hs : ∀ x ∈ BV', x ∈ BV) : wcs fp BV' = e2 (BV'.map (toE2 fp)) := by
  induction BV' with
  | nil => rfl
  | cons x l ih =>
    obtain ⟨A, c, e⟩ := own_shape (h.data x (hs x (List.mem_cons_self ..))).1
    have := ih fun y hy => hs y (List.mem_cons_of_mem _ hy)
    simp only [wcs, e2, List.flatMap_cons, List.map_cons] at this ⊢
    rw [this]
    congr 1
    simp only [toE2, e, v1, v2]
theorem filt_e2 {fp : Nm → Nat} {n : Nm} (BV : List (Nm × By × Value)) (hinj : ∀ x ∈ BV, fp x.1 = fp n → x.1 = n) : (BV.map (toE2 fp)).filter (fun x => !isF (fp n) x) = (BV.filter fun x => x.1 ≠ n).map (toE2 fp) := by
  rw [List.filter_map]
  congr 1
  apply List.filter_congr
  intro x hx
  simp only [Function.comp, isF, toE2_fst]
  by_cases e : x.1 = n
  · simp [e]
  · have : fp x.1 ≠ fp n := fun h => e (hinj x hx h)
    simp [e, this]
theorem adel_BV {n : Nm} (BV : List (Nm × By × Value)) : adel (BV.map fun x => (x.1, x.2.1)) n = (BV.filter fun x => x.1 ≠ n).map fun x => (x.1, x.2.1) := by
  unfold adel
  rw [List.filter_map]
  rfl

set_option maxRecDepth 100000 in
theorem gone1_any (bx f fx : Nat) (A : Option Addr) (l c : Nat) (w : World) (hb : w.heap[bx]? = some (.cells #[.pointer (some ⟨f, 0, none⟩)] 62 (0, 0)))
    (cf cx : Array Value) (hf : w.heap[f]? = some (.cells cf 65 (0, 0))) (hx : w.heap[fx]? = some (.cells cx 65 (0, 0))) :
    Calls Try.prog 67 #[.agg #[.pointer (some ⟨fx, 0, none⟩), .slice A l c], .pointer (some ⟨bx, 0, none⟩)] w fun e w' => e = .returned (.bool (decide (fx = f))) ∧ Kp All w w' := by
  have cb := blk_cell (blk_alloc hb (.cells #[.pointer (some ⟨fx, 0, none⟩), .slice A l c] 67))
  by_cases e : fx = f
  · subst e
    have hsame := ptr_same fx
    clear hb hf hx
    go_enter Try.func67, Try.ntmps67
    go_wp2_with fail
    go_ret
    exact ⟨by simp, Kp.al _ _⟩
  · have hoth := ptr_other (w := w.alloc (.cells #[.pointer (some ⟨fx, 0, none⟩), .slice A l c] 67)) e (blk_alloc hx _) (blk_alloc hf _)
    have hd : decide (fx = f) = false := decide_eq_false e
    rw [hd]
    clear hb hf hx hd
    go_enter Try.func67, Try.ntmps67
    go_wp2_with fail
    go_ret
    exact ⟨rfl, Kp.al _ _⟩

/-- the disk behind: the file n and its writes are gone -/
theorem Dk0.goned {w wF : World} {p : Nat} {ro : Nat → Role} {D : DS} {m : Nat} {fp : Nm → Nat} {bv v : Value} {BV : List (Nm × By × Value)} (h : Dk0 w p ro D m fp bv BV) {n : Nm} {s : By} (hs : (n, s) ∈ D.F)
    (hcell : wF.heap[p]? = some (.cells (dcs D ((usedOf D.F D.B : Int) - (needs (s.length + moreOf D.B n) : Nat)) m v) 57 (0, 0)))
    (hmap : SMap wF m (adel (D.F.map fun x => (x.1, Value.pointer (some ⟨fp x.1, 0, none⟩))) n))
    (hv : v.ownBlock = bv.ownBlock) (hrow : wF.ownsRow 0 67 2 v ((BV.map (toE2 fp)).filter fun x => !isF (fp n) x).length (e2 ((BV.map (toE2 fp)).filter fun x => !isF (fp n) x)))
    (kp : Kp (fun z => z ≠ p ∧ z ≠ m ∧ some z ≠ bv.ownBlock) w wF) : Dk0 wF p ro (D.gone n) m fp v (BV.filter fun x => x.1 ≠ n) ∧ Kp (fun b => ro b = .none) w wF := by
  have hnd : (D.F.map (·.1)).Nodup := by
    have := h.map.nodup strKey
    simpa [List.map_map, Function.comp_def] using this
  have hinj : ∀ x ∈ BV, fp x.1 = fp n → x.1 = n := fun x hx e => by
    have hm := h.names (x.1, x.2.1) (by rw [h.bf.eq]; exact List.mem_map.2 ⟨x, hx, rfl⟩)
    obtain ⟨s', hs'⟩ := mem_keys hm
    exact h.fl.inj _ hs' _ hs e
  rw [filt_e2 BV hinj] at hrow
  rw [← wcs_e2 h.bf (BV.filter fun x => x.1 ≠ n) (fun x hx => (List.mem_filter.1 hx).1), List.length_map] at hrow
  have hB : (D.gone n).B = (BV.filter fun x => x.1 ≠ n).map fun x => (x.1, x.2.1) := by
    show adel D.B n = _
    rw [h.bf.eq]; exact adel_BV BV
  have hkeep : ∀ z, ro z ≠ .none → ro z ≠ .disk → ro z ≠ .map → ro z ≠ .buf → z ≠ p ∧ z ≠ m ∧ some z ≠ bv.ownBlock := fun z _ h2 h3 h4 => ⟨(fun e => h2 (e ▸ h.rp)), (fun e => h3 (e ▸ h.rm)), fun e => h4 (h.bf.role z e.symm)⟩
  have hgu := gone_used (B := D.B) hnd hs
  refine ⟨⟨?_, ?_, ⟨?_, ?_, ?_⟩, ⟨hB, ?_, ?_, ?_, ?_⟩, h.rp, h.rm, fun b hb => Nat.lt_of_lt_of_le (h.lt b hb) kp.size, ?_, h.bl, h.kw, ?_⟩, ?_⟩
  · rw [hcell]
    show some (Obj.cells (dcs D _ m v) _ _) = some (Obj.cells (dcs (D.gone n) (usedOf (adel D.F n) (adel D.B n) : Nat) m v) _ _)
    rw [show ((usedOf D.F D.B : Int) - (needs (s.length + moreOf D.B n) : Nat)) = ((usedOf (adel D.F n) (adel D.B n) : Nat) : Int) from by omega]
    rfl
  · have e : (D.gone n).F.map (fun x => (x.1, Value.pointer (some ⟨fp x.1, 0, none⟩))) = adel (D.F.map fun x => (x.1, Value.pointer (some ⟨fp x.1, 0, none⟩))) n := by
      show (adel D.F n).map _ = _
      unfold adel
      rw [List.filter_map]
      rfl
    rw [e]; exact hmap
  · intro x hx
    obtain ⟨hx1, hx2⟩ := List.mem_filter.1 hx
    obtain ⟨v, h1, h2, h3⟩ := h.fl.lie x hx1
    have hr := h.fl.role x hx1
    refine ⟨v, ?_, own_kept h2 kp fun b hb => ?_, h3⟩
    · show _ = some (Obj.cells #[v, .int .i64 (moreOf (adel D.B n) x.1 : Nat)] _ _)
      rw [moreOf_adel (by simpa using hx2)]
      exact kp.heap h1 (hkeep _ (by rw [hr]; decide) (by rw [hr]; decide) (by rw [hr]; decide) (by rw [hr]; decide))
    · have := h3 b hb
      exact hkeep b (by rw [this]; simp) (by rw [this]; simp) (by rw [this]; simp) (by rw [this]; simp)
  · exact fun x hx => h.fl.role x (List.mem_filter.1 hx).1
  · exact fun x hx y hy e => h.fl.inj x (List.mem_filter.1 hx).1 y (List.mem_filter.1 hy).1 e
  · rw [hB, List.length_map]; exact hrow
  · intro b hb
    rw [hv] at hb
    exact h.bf.role b hb
  · intro x hx
    obtain ⟨h1, h2⟩ := h.bf.data x (List.mem_filter.1 hx).1
    refine ⟨own_kept h1 kp fun b hb => ?_, h2⟩
    have := h2 b hb
    exact hkeep b (by rw [this]; simp) (by rw [this]; simp) (by rw [this]; simp) (by rw [this]; simp)
  · exact List.Nodup.sublist ((List.filter_sublist ..).filterMap _) h.bf.one
  · intro x hx
    obtain ⟨hx1, hx2⟩ := List.mem_filter.1 (show x ∈ adel D.B n from hx)
    obtain ⟨s', hs'⟩ := mem_keys (h.names x hx1)
    exact List.mem_map.2 ⟨(x.1, s'), List.mem_filter.2 ⟨hs', hx2⟩, rfl⟩
  · have := h.us
    show ((usedOf (adel D.F n) (adel D.B n) : Nat) : Int) ≤ D.blocks
    omega
  · exact kp.mono fun z _ hz => ⟨(fun e => by rw [e, h.rp] at hz; cases hz), (fun e => by rw [e, h.rm] at hz; cases hz), (fun e => by rw [h.bf.role z e.symm] at hz; cases hz)⟩
end Go.Proofs.Ytdlbccjimdghkaa
