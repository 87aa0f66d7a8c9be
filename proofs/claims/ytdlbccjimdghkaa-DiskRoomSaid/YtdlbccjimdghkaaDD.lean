/- The disk: what one round of settle leaves. No program is walked here. -/
import Derived.Test.YtdlbccjimdghkaaDC
import Derived.Test.YtdlbccjimdghkaaRT
import Derived.StillTailTactics
namespace Go.Proofs.Ytdlbccjimdghkaa
open Go.RowKit
set_option linter.unusedVariables false
theorem addTo_keys (F : List (Nm × By)) (n : Nm) (c : By) : (addTo F n c).map (·.1) = F.map (·.1) := by
  unfold addTo
  rw [List.map_map]
  apply List.map_congr_left
  intro x _
  simp only [Function.comp]
  split <;> simp_all
theorem addTo_none {F : List (Nm × By)} {n : Nm} (h : n ∉ F.map (·.1)) (c : By) : addTo F n c = F := by
  unfold addTo
  rw [List.map_congr_left (g := id) (fun x hx => ?_), List.map_id]
  rw [if_neg (fun e => h (List.mem_map.2 ⟨x, hx, e⟩))]
  rfl
theorem usedOf_cons_none {F : List (Nm × By)} {x : Nm × By} (h : x.1 ∉ F.map (·.1)) (rest : List (Nm × By)) : usedOf F (x :: rest) = usedOf F rest := by
  unfold usedOf
  congr 1
  apply List.map_congr_left
  intro y hy
  rw [moreOf, if_neg (fun e => h (List.mem_map.2 ⟨y, hy, e.symm⟩)), Nat.zero_add]
theorem used_step {F : List (Nm × By)} {x : Nm × By} {s c : By} {rest : List (Nm × By)} (hn : (F.map (·.1)).Nodup) (h : (x.1, s) ∈ F) :
    usedOf (addTo F x.1 c) rest + needs (s.length + moreOf (x :: rest) x.1) = usedOf F (x :: rest) + needs (s.length + c.length + moreOf rest x.1) := by
  induction F with
  | nil => cases h
  | cons y l ih =>
    simp only [List.map_cons, List.nodup_cons] at hn
    cases h with
    | head =>
      have e1 := addTo_none hn.1 c
      have e2 := usedOf_cons_none (x := x) hn.1 rest
      simp only [usedOf] at e2 ⊢
      simp only [addTo, List.map_cons, if_true, List.sum_cons] at e1 ⊢
      rw [e1, e2, List.length_append]
      simp only [moreOf, if_true]
      omega
    | tail _ h =>
      have ih := ih hn.2 h
      have hne : y.1 ≠ x.1 := fun e => hn.1 (e ▸ List.mem_map.2 ⟨_, h, rfl⟩)
      have e3 : moreOf (x :: rest) y.1 = moreOf rest y.1 := by simp [moreOf, Ne.symm hne]
      simp only [usedOf, addTo] at ih ⊢
      simp only [List.map_cons, List.sum_cons, if_neg hne, e3]
      omega
theorem map_keys {F F' : List (Nm × By)} (h : F.map (·.1) = F'.map (·.1)) (g : Nm → Value) : (F.map fun x => (x.1, g x.1)) = F'.map fun x => (x.1, g x.1) := by
  have := congrArg (List.map fun n => (n, g n)) h
  simpa [List.map_map, Function.comp_def] using this
theorem mem_keys {F : List (Nm × By)} {n : Nm} (h : n ∈ F.map (·.1)) : ∃ s, (n, s) ∈ F := by
  obtain ⟨x, hx, rfl⟩ := List.mem_map.1 h
  exact ⟨x.2, hx⟩
theorem key_one {F : List (Nm × By)} (hn : (F.map (·.1)).Nodup) {n : Nm} {s t : By} (h : (n, s) ∈ F) (h' : (n, t) ∈ F) : s = t := by
  induction F with
  | nil => cases h
  | cons y l ih =>
    simp only [List.map_cons, List.nodup_cons] at hn
    cases h with
    | head =>
      cases h' with
      | head => rfl
      | tail _ h' => exact absurd (List.mem_map.2 ⟨_, h', rfl⟩) hn.1
    | tail _ h =>
      cases h' with
      | head => exact absurd (List.mem_map.2 ⟨_, h, rfl⟩) hn.1
      | tail _ h' => exact ih hn.2 h h'

theorem own_sl {w : World} {base e n c k : Nat} {A : Option Addr} {xs : List Value} (h : w.ownsRow base e 1 (.slice A n c) n xs) (hk : k ≤ n) : Sl A k c 1 (xs.take k) w ∧ n ≤ c := by
  have hl := h.1
  rcases h.2 with ⟨e1, e2⟩ | ⟨g, cap, cur, e1, _, hg, hn, _⟩
  · injection e1 with eA _ ec
    subst eA ec e2
    obtain rfl : k = 0 := by omega
    exact ⟨⟨by simp, Nat.le_refl _, fun h => absurd h (by omega)⟩, Nat.le_refl _⟩
  · injection e1 with eA _ ec
    subst eA ec
    refine ⟨⟨by rw [List.length_take]; omega, by omega, fun _ => ⟨g, 0, rfl, fun j u hj => ?_⟩⟩, hn⟩
    rw [Nat.zero_add]
    rcases own_at h with ⟨e1, _⟩ | ⟨g', cap', cur', e1, _, _, hat⟩
    · cases e1
    · injection e1 with e1 _ _
      injection e1 with e1
      injection e1 with e1 _ _
      subst e1
      refine hat j u ?_
      rw [List.getElem?_take] at hj
      split at hj
      · exact hj
      · cases hj

/-- The disk within settle: k writes are done. -/
structure St (w0 w : World) (p m : Nat) (ro0 ro : Nat → Role) (fp : Nm → Nat) (D : DS) (bv : Value) (BV : List (Nm × By × Value)) (k : Nat) (F : List (Nm × By)) : Prop where
  cell : w.heap[p]? = some (.cells (dcs D (usedOf F (D.B.drop k)) m bv) 57 (0, 0))
  map : SMap w m (D.F.map fun x => (x.1, .pointer (some ⟨fp x.1, 0, none⟩)))
  fl : Fl w ro fp F (D.B.drop k)
  bf : Bf w ro fp D.B bv BV
  rp : ro p = .disk
  rm : ro m = .map
  lt : ∀ b, ro b ≠ .none → b < w.heap.size
  keys : F.map (·.1) = D.F.map (·.1)
  us : usedOf F (D.B.drop k) ≤ usedOf D.F D.B
  ext : ∀ b, b < w0.heap.size → ro0 b = .none → ro b = .none
  kp : Kp (fun b => ro0 b = .none) w0 w
theorem St.kept {S : Nat → Prop} {w0 w w' : World} {p m : Nat} {ro0 ro : Nat → Role} {fp : Nm → Nat} {D : DS} {bv : Value} {BV : List (Nm × By × Value)} {k : Nat} {F : List (Nm × By)} (h : St w0 w p m ro0 ro fp D bv BV k F) (k2 : Kp All w w') : St w0 w' p m ro0 ro fp D bv BV k F where
  cell := k2.heap h.cell trivial
  map := h.map.all k2
  fl := h.fl.kept k2 fun _ _ => trivial
  bf := h.bf.kept k2 fun _ _ => trivial
  rp := h.rp
  rm := h.rm
  lt := fun b hb => Nat.lt_of_lt_of_le (h.lt b hb) k2.size
  keys := h.keys
  us := h.us
  ext := h.ext
  kp := h.kp.trans k2.all

theorem St.next {w0 wr wF : World} {p m : Nat} {ro0 ro : Nat → Role} {fp : Nm → Nat} {D : DS} {bv : Value} {BV : List (Nm × By × Value)} {k : Nat} {F : List (Nm × By)} (h : St w0 wr p m ro0 ro fp D bv BV k F)
    {x : Nm × By} {s c : By} {sv v3 : Value} {N : Nat} (hx : D.B[k]? = some x) (hdrop : D.B.drop k = x :: D.B.drop (k + 1)) (hs : (x.1, s) ∈ F) (hnd : (F.map (·.1)).Nodup)
    (hq : ∀ b, sv.ownBlock = some b → ro b = .sure (fp x.1)) (hcell : wF.heap[p]? = some (.cells (dcs D (usedOf (addTo F x.1 c) (D.B.drop (k + 1))) m bv) 57 (0, 0)))
    (hfile : wF.heap[fp x.1]? = some (.cells #[v3, .int .i64 (moreOf (D.B.drop (k + 1)) x.1)] 65 (0, 0))) (hown : wF.ownsRow 0 5 1 v3 (s ++ c).length (u8s (s ++ c)))
    (hob : v3.ownBlock = sv.ownBlock ∨ v3.ownBlock = some N) (hN : wr.heap.size ≤ N) (kp : Kp (fun b => b ≠ p ∧ b ≠ fp x.1 ∧ some b ≠ sv.ownBlock) wr wF) (hle : usedOf (addTo F x.1 c) (D.B.drop (k + 1)) ≤ usedOf F (D.B.drop k)) :
    ∃ ro', St w0 wF p m ro0 ro' fp D bv BV (k + 1) (addTo F x.1 c) := by
  have hf := h.fl.role _ hs
  simp only at hf
  -- what is no file's row and no new block
  have hold : ∀ b, ro b ≠ .sure (fp x.1) → b < wr.heap.size → some b ≠ v3.ownBlock := by
    intro b hb hlt e
    rcases hob with h1 | h1
    · rw [h1] at e
      exact hb (hq b e.symm)
    · rw [h1] at e
      injection e with e
      omega
  have hro : ∀ b, ro b ≠ .sure (fp x.1) → ro b ≠ .none → (if some b = v3.ownBlock then Role.sure (fp x.1) else ro b) = ro b := fun b hb hn => if_neg (hold b hb (h.lt b hn))
  have hkeep : ∀ b, ro b ≠ .none → ro b ≠ .disk → ro b ≠ .sure (fp x.1) → b ≠ fp x.1 → b ≠ p ∧ b ≠ fp x.1 ∧ some b ≠ sv.ownBlock := fun b _ h2 h3 h4 => ⟨fun e => h2 (e ▸ h.rp), h4, fun e => h3 (hq b e.symm)⟩
  refine ⟨fun b => if some b = v3.ownBlock then .sure (fp x.1) else ro b, hcell, ?_, ⟨?_, ?_, ?_⟩, ⟨h.bf.eq, ?_, ?_, ?_⟩, ?_, ?_, ?_, ?_, ?_, ?_, ?_⟩
  · exact h.map.kept kp (hkeep m (by rw [h.rm]; decide) (by rw [h.rm]; decide) (by rw [h.rm]; simp) (fun e => by rw [← e, h.rm] at hf; cases hf))
  · intro y hy
    obtain ⟨z, hz, rfl⟩ := List.mem_map.1 hy
    by_cases e : z.1 = x.1
    · rw [if_pos e]
      have : z.2 = s := key_one hnd (n := x.1) (by rw [← e]; exact hz) hs
      subst this
      simp only
      rw [e]
      exact ⟨v3, hfile, hown, fun b hb => if_pos hb.symm⟩
    · rw [if_neg e]
      obtain ⟨v, h1, h2, h3⟩ := h.fl.lie z hz
      have hne : fp z.1 ≠ fp x.1 := fun e2 => e (h.fl.inj z hz (x.1, s) hs e2)
      have hzr := h.fl.role z hz
      refine ⟨v, ?_, ?_, ?_⟩
      · rw [hdrop, moreOf, if_neg (Ne.symm e), Nat.zero_add] at h1
        exact kp.heap h1 (hkeep _ (by rw [hzr]; decide) (by rw [hzr]; decide) (by rw [hzr]; simp) hne)
      · refine own_kept h2 kp fun b hb => ?_
        have h4 := h3 b hb
        exact hkeep b (by rw [h4]; simp) (by rw [h4]; simp) (by rw [h4]; simpa using hne) (fun e2 => by rw [e2, hf] at h4; cases h4)
      · intro b hb
        have h4 := h3 b hb
        rw [hro b (by rw [h4]; simpa using hne) (by rw [h4]; simp)]
        exact h4
  · intro y hy
    obtain ⟨z, hz, rfl⟩ := List.mem_map.1 hy
    have hzr := h.fl.role z hz
    have : (if z.1 = x.1 then (z.1, z.2 ++ c) else z).1 = z.1 := by split <;> rfl
    rw [this, hro _ (by rw [hzr]; simp) (by rw [hzr]; decide)]
    exact hzr
  · intro y hy y' hy' e
    obtain ⟨z, hz, rfl⟩ := List.mem_map.1 hy
    obtain ⟨z', hz', rfl⟩ := List.mem_map.1 hy'
    have e1 : (if z.1 = x.1 then (z.1, z.2 ++ c) else z).1 = z.1 := by split <;> rfl
    have e2 : (if z'.1 = x.1 then (z'.1, z'.2 ++ c) else z').1 = z'.1 := by split <;> rfl
    rw [e1, e2] at e ⊢
    exact h.fl.inj z hz z' hz' e
  · refine own_kept h.bf.row kp fun b hb => ?_
    have h4 := h.bf.role b hb
    exact hkeep b (by rw [h4]; simp) (by rw [h4]; simp) (by rw [h4]; simp) (fun e2 => by rw [e2, hf] at h4; cases h4)
  · intro b hb
    have h4 := h.bf.role b hb
    rw [hro b (by rw [h4]; simp) (by rw [h4]; simp)]
    exact h4
  · intro y hy
    obtain ⟨h1, h2⟩ := h.bf.data y hy
    refine ⟨own_kept h1 kp fun b hb => ?_, fun b hb => ?_⟩
    · have h4 := h2 b hb
      exact hkeep b (by rw [h4]; simp) (by rw [h4]; simp) (by rw [h4]; simp) (fun e2 => by rw [e2, hf] at h4; cases h4)
    · have h4 := h2 b hb
      rw [hro b (by rw [h4]; simp) (by rw [h4]; simp)]
      exact h4
  · rw [hro p (by rw [h.rp]; simp) (by rw [h.rp]; simp)]
    exact h.rp
  · rw [hro m (by rw [h.rm]; simp) (by rw [h.rm]; simp)]
    exact h.rm
  · intro b hb
    split at hb
    · rename_i e
      exact (hown.lt b e.symm).2
    · exact Nat.lt_of_lt_of_le (h.lt b hb) kp.size
  · rw [addTo_keys]
    exact h.keys
  · exact Nat.le_trans hle h.us
  · intro b hb hn
    have h1 := h.ext b hb hn
    rw [if_neg (hold b (by rw [h1]; simp) (Nat.lt_of_lt_of_le hb h.kp.size))]
    exact h1
  · refine h.kp.then kp fun b hb hn => ?_
    have h1 := h.ext b hb hn
    exact ⟨(fun e => by rw [e, h.rp] at h1; cases h1), (fun e => by rw [e, hf] at h1; cases h1), (fun e => by rw [hq b e.symm] at h1; cases h1)⟩

end Go.Proofs.Ytdlbccjimdghkaa
