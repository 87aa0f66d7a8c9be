/- The disk: what one more write in the buffer leaves. No program is walked here. -/
import Derived.Test.YtdlbccjimdghkaaDG
namespace Go.Proofs.Ytdlbccjimdghkaa
open Go.RowKit
set_option linter.unusedVariables false
theorem moreOf_push (B : List (Nm × By)) (n k : Nm) (b : By) : moreOf (B ++ [(n, b)]) k = moreOf B k + if n = k then b.length else 0 := by
  induction B with
  | nil => simp [moreOf]
  | cons x l ih =>
    simp only [List.cons_append, moreOf, ih]
    omega
theorem used_push_none {F B : List (Nm × By)} {n : Nm} (h : n ∉ F.map (·.1)) (b : By) : usedOf F (B ++ [(n, b)]) = usedOf F B := by
  unfold usedOf
  congr 1
  apply List.map_congr_left
  intro y hy
  rw [moreOf_push, if_neg (fun e => h (List.mem_map.2 ⟨y, hy, e.symm⟩)), Nat.add_zero]
theorem used_push {F B : List (Nm × By)} {n : Nm} {s b : By} (hn : (F.map (·.1)).Nodup) (h : (n, s) ∈ F) :
    usedOf F (B ++ [(n, b)]) + needs (s.length + moreOf B n) = usedOf F B + needs (s.length + moreOf B n + b.length) := by
  induction F with
  | nil => cases h
  | cons y l ih =>
    simp only [List.map_cons, List.nodup_cons] at hn
    cases h with
    | head =>
      have e2 := used_push_none (B := B) hn.1 b
      simp only [usedOf, List.map_cons, List.sum_cons] at e2 ⊢
      rw [e2, moreOf_push, if_pos rfl]
      simp only [Nat.add_assoc]
      omega
    | tail _ h =>
      have ih := ih hn.2 h
      have hne : n ≠ y.1 := fun e => hn.1 (e ▸ List.mem_map.2 ⟨_, h, rfl⟩)
      have e3 : moreOf (B ++ [(n, b)]) y.1 = moreOf B y.1 := by rw [moreOf_push, if_neg hne, Nat.add_zero]
      simp only [usedOf, List.map_cons, List.sum_cons, e3] at ih ⊢
      omega

/-- n more blocks for l more bytes -/
def grow (D : DS) (n : Nm) (s : By) (l : Nat) : Nat := needs (s.length + moreOf D.B n + l) - needs (s.length + moreOf D.B n)
def DS.push (D : DS) (n : Nm) (b : By) : DS := { D with B := D.B ++ [(n, b)] }
def AppPost (w : World) (ro : Nat → Role) (p : Nat) (D : DS) (n : Nm) (s b : By) (e : Ending) (w' : World) : Prop :=
  if D.blocks - (usedOf D.F D.B : Int) < (grow D n s b.length : Int) then e = .returned (.int .i64 7) ∧ Nx w ro p D w' else e = .returned (.int .i64 0) ∧ Nx w ro p (D.push n b) w'


theorem wcs_push (fp : Nm → Nat) (BV : List (Nm × By × Value)) (x : Nm × By × Value) : wcs fp (BV ++ [x]) = wcs fp BV ++ [.pointer (some ⟨fp x.1, 0, none⟩), x.2.2] := by
  simp [wcs]
theorem Dk0.pushed {w wF : World} {p : Nat} {ro : Nat → Role} {D : DS} {m : Nat} {fp : Nm → Nat} {bv : Value} {BV : List (Nm × By × Value)} (h : Dk0 w p ro D m fp bv BV) {n : Nm} {s b : By} {sv v4 dv : Value} {N : Nat} (hs : (n, s) ∈ D.F)
    (hsv : w.ownsRow 0 5 1 sv s.length (u8s s)) (hsb : ∀ z, sv.ownBlock = some z → ro z = .sure (fp n))
    (hcell : wF.heap[p]? = some (.cells (dcs D (usedOf D.F (D.B ++ [(n, b)])) m v4) 57 (0, 0)))
    (hfile : wF.heap[fp n]? = some (.cells #[sv, .int .i64 (moreOf D.B n + b.length : Nat)] 65 (0, 0)))
    (hrow : wF.ownsRow 0 67 2 v4 (D.B.length + 1) (wcs fp BV ++ [.pointer (some ⟨fp n, 0, none⟩), dv]))
    (hob : v4.ownBlock = bv.ownBlock ∨ v4.ownBlock = some N) (hN : w.heap.size ≤ N)
    (hdv : wF.ownsRow 0 5 1 dv b.length (u8s b)) (hdb : ∀ z, dv.ownBlock = some z → w.heap.size ≤ z ∧ v4.ownBlock ≠ some z)
    (kp : Kp (fun z => z ≠ p ∧ z ≠ fp n ∧ some z ≠ bv.ownBlock) w wF) (hus : (usedOf D.F (D.B ++ [(n, b)]) : Int) ≤ D.blocks) : Nx w ro p (D.push n b) wF := by
  have hnd : (D.F.map (·.1)).Nodup := by
    have := h.map.nodup strKey
    simpa [List.map_map, Function.comp_def] using this
  have hf := h.fl.role _ hs
  simp only at hf
  have hold : ∀ z, ro z ≠ .buf → z < w.heap.size → some z ≠ v4.ownBlock := by
    intro z hz hlt e
    rcases hob with h1 | h1
    · rw [h1] at e
      exact hz (h.bf.role z e.symm)
    · rw [h1] at e
      injection e with e
      omega
  have hold2 : ∀ z, z < w.heap.size → some z ≠ dv.ownBlock := fun z hz e => by have := (hdb z e.symm).1; omega
  have hro : ∀ z, ro z ≠ .none → (if some z = v4.ownBlock then Role.buf else if some z = dv.ownBlock then .data else ro z) = ro z := by
    intro z hz
    have hlt := h.lt z hz
    rw [if_neg (hold2 z hlt)]
    by_cases e : ro z = .buf
    · rw [e]; split <;> rfl
    · rw [if_neg (hold z e hlt)]
  have hkeep : ∀ z, ro z ≠ .none → ro z ≠ .disk → ro z ≠ .buf → z ≠ fp n → z ≠ p ∧ z ≠ fp n ∧ some z ≠ bv.ownBlock := fun z _ h2 h3 h4 => ⟨fun e => h2 (e ▸ h.rp), h4, fun e => h3 (h.bf.role z e.symm)⟩
  refine ⟨fun z => if some z = v4.ownBlock then .buf else if some z = dv.ownBlock then .data else ro z, ⟨m, fp, v4, BV ++ [(n, b, dv)], hcell, ?_, ⟨?_, ?_, ?_⟩, ⟨?_, ?_, ?_, ?_, ?_⟩, ?_, ?_, ?_, ?_, h.bl, h.kw, hus⟩, ?_, ?_⟩
  · exact h.map.kept kp (hkeep m (by rw [h.rm]; decide) (by rw [h.rm]; decide) (by rw [h.rm]; simp) (fun e => by rw [← e, h.rm] at hf; cases hf))
  · intro z hz
    by_cases e : z.1 = n
    · have : z.2 = s := key_one hnd (n := n) (by rw [← e]; exact hz) hs
      obtain ⟨z1, z2⟩ := z
      simp only at e this
      subst e this
      refine ⟨sv, ?_, own_kept hsv kp fun b hb => ?_, fun b hb => ?_⟩
      · show _ = some (Obj.cells #[sv, .int .i64 (moreOf (D.B ++ [(z1, b)]) z1 : Nat)] _ _)
        rw [moreOf_push, if_pos rfl]
        exact hfile
      · have h4 := hsb b hb
        exact hkeep b (by rw [h4]; simp) (by rw [h4]; simp) (by rw [h4]; simp) (fun e2 => by rw [e2, hf] at h4; cases h4)
      · have h4 := hsb b hb
        rw [hro b (by rw [h4]; simp)]
        exact h4
    · obtain ⟨v, h1, h2, h3⟩ := h.fl.lie z hz
      have hne : fp z.1 ≠ fp n := fun e2 => e (h.fl.inj z hz _ hs e2)
      have hzr := h.fl.role z hz
      refine ⟨v, ?_, own_kept h2 kp fun b hb => ?_, fun b hb => ?_⟩
      · have := kp.heap h1 (hkeep _ (by rw [hzr]; decide) (by rw [hzr]; decide) (by rw [hzr]; simp) hne)
        rw [this]
        show some (Obj.cells #[v, .int .i64 (moreOf D.B z.1 : Nat)] _ _) = some (Obj.cells #[v, .int .i64 (moreOf (D.B ++ [(n, _)]) z.1 : Nat)] _ _)
        rw [moreOf_push, if_neg (Ne.symm e), Nat.add_zero]
      · have h4 := h3 b hb
        exact hkeep b (by rw [h4]; simp) (by rw [h4]; simp) (by rw [h4]; simp) (fun e2 => by rw [e2, hf] at h4; cases h4)
      · have h4 := h3 b hb
        rw [hro b (by rw [h4]; simp)]
        exact h4
  · intro z hz
    have hzr := h.fl.role z hz
    rw [hro _ (by rw [hzr]; decide)]
    exact hzr
  · exact h.fl.inj
  · show D.B ++ [(n, b)] = _
    rw [List.map_append, ← h.bf.eq]
    rfl
  · show wF.ownsRow 0 67 2 v4 (D.B ++ [(n, b)]).length _
    rw [wcs_push, List.length_append]
    exact hrow
  · intro z hz
    exact if_pos hz.symm
  · intro y hy
    rcases List.mem_append.1 hy with hy | hy
    · obtain ⟨h1, h2⟩ := h.bf.data y hy
      refine ⟨own_kept h1 kp fun b hb => ?_, fun b hb => ?_⟩
      · have h4 := h2 b hb
        exact hkeep b (by rw [h4]; simp) (by rw [h4]; simp) (by rw [h4]; simp) (fun e2 => by rw [e2, hf] at h4; cases h4)
      · have h4 := h2 b hb
        rw [hro b (by rw [h4]; simp)]
        exact h4
    · simp only [List.mem_singleton] at hy
      subst hy
      refine ⟨hdv, fun z hz => ?_⟩
      show (if some z = v4.ownBlock then Role.buf else if some z = dv.ownBlock then .data else ro z) = .data
      rw [if_neg (fun e => (hdb z hz).2 e.symm), if_pos hz.symm]
  · unfold blks
    rw [List.filterMap_append, List.nodup_append]
    refine ⟨h.bf.one, ?_, fun a ha c hc e => ?_⟩
    · simp only [List.filterMap_cons, List.filterMap_nil]
      split <;> simp
    · obtain ⟨y, hy, hye⟩ := List.mem_filterMap.1 ha
      have h5 := (h.bf.data y hy).2 a hye
      have h6 := h.lt a (by rw [h5]; simp)
      have h7 : dv.ownBlock = some c := by
        obtain ⟨y', hy', hye'⟩ := List.mem_filterMap.1 hc
        simp only [List.mem_singleton] at hy'
        subst hy'
        exact hye'
      have := (hdb c h7).1
      omega
  · rw [hro p (by rw [h.rp]; simp)]; exact h.rp
  · rw [hro m (by rw [h.rm]; simp)]; exact h.rm
  · intro z hz
    split at hz
    · rename_i e; exact (hrow.lt z e.symm).2
    · split at hz
      · rename_i e; exact (hdv.lt z e.symm).2
      · exact Nat.lt_of_lt_of_le (h.lt z hz) kp.size
  · intro x hx
    rcases List.mem_append.1 hx with hx | hx
    · exact h.names x hx
    · simp only [List.mem_singleton] at hx
      subst hx
      exact List.mem_map.2 ⟨_, hs, rfl⟩
  · intro z hz hn
    show (if some z = v4.ownBlock then Role.buf else if some z = dv.ownBlock then .data else ro z) = .none
    rw [if_neg (hold z (by rw [hn]; simp) hz), if_neg (hold2 z hz)]
    exact hn
  · exact kp.mono fun z _ hz => ⟨(fun e => by rw [e, h.rp] at hz; cases hz), (fun e => by rw [e, hf] at hz; cases hz), (fun e => by rw [h.bf.role z e.symm] at hz; cases hz)⟩
end Go.Proofs.Ytdlbccjimdghkaa
