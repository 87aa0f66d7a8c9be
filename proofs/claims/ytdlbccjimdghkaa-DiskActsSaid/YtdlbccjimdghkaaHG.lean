/- The document's disk in memory: gone, walked once. No condition but that it lies as RD says, and is good. -/
import Derived.Test.YtdlbccjimdghkaaHF
namespace Go.Proofs.Ytdlbccjimdghkaa
open Go.RowKit
set_option linter.unusedVariables false
set_option linter.unusedSimpArgs false
theorem own_ty {w : World} {b0 e sz n : Nat} {v : Value} {xs : List Value} (h : w.ownsRow b0 e sz v n xs) {b : Nat} (hb : v.ownBlock = some b) : ∃ cur, w.heap[b]? = some (.cells cur e (0, 0)) := by
  rcases h.2 with ⟨rfl, _⟩ | ⟨g, cap, cur, rfl, _, hg, _⟩
  · cases hb
  · injection hb with hb; subst hb; exact ⟨_, hg⟩
theorem ty_ne {w : World} {a b : Nat} {ca cb : Array Value} {ta tb : TypeId} {fa fb : Nat × Nat} (ha : w.heap[a]? = some (.cells ca ta fa)) (hb : w.heap[b]? = some (.cells cb tb fb)) (h : ta ≠ tb) : a ≠ b := by
  intro e
  rw [e, hb] at ha
  injection ha with ha
  injection ha with _ ha
  exact h ha.symm
/-- The disk told anew: its rows are its own or new. -/
theorem Rx.mk' {Z : Nat → Prop} {p : Nat} {R R' : DS} {lv bv lv' bv' : Value} {LV BV LV' BV' : List Itm} {w w' : World} (h : RD0 Z p R lv bv LV BV w) (hk : Kp (fun i => ¬ Z i) w w') (hc : w'.heap[p]? = some (.cells (rcs R' lv' bv') 77 (0, 0)))
    (hf : R'.F = nms LV') (hb : R'.B = nms BV') (hlr : w'.ownsRow 0 94 2 lv' LV'.length (ncs LV')) (hbr : w'.ownsRow 0 96 2 bv' BV'.length (ncs BV'))
    (hd : ∀ x, x ∈ LV' ∨ x ∈ BV' → w'.ownsRow 0 5 1 x.2.2 x.2.1.length (u8s x.2.1) ∧ ∀ b, x.2.2.ownBlock = some b → Z b ∨ w.heap.size ≤ b)
    (zl : ∀ b, lv'.ownBlock = some b → Z b ∨ w.heap.size ≤ b) (zb : ∀ b, bv'.ownBlock = some b → Z b ∨ w.heap.size ≤ b) : Rx Z p R' w w' := by
  have lt' : ∀ b, Z b → b < w'.heap.size := fun b hz => Nat.lt_of_lt_of_le (h.lt b hz) hk.size
  refine ⟨fun b => b < w'.heap.size ∧ (Z b ∨ w.heap.size ≤ b), ⟨lv', bv', LV', BV', hc, hf, hb, hlr, hbr, fun x hx => (hd x hx).1, ⟨lt' _ h.zp, .inl h.zp⟩, fun b hz => ⟨(hlr.lt b hz).2, zl b hz⟩, fun b hz => ⟨(hbr.lt b hz).2, zb b hz⟩, fun x hx b hz => ⟨((hd x hx).1.lt b hz).2, (hd x hx).2 b hz⟩, fun b hz => hz.1⟩, fun b hb hz => ?_, hk⟩
  rcases hz.2 with h | h
  · exact h
  · omega
theorem adel_erase {β : Type} : ∀ {L : List (Nm × β)} {j : Nat} {x : Nm × β}, (L.map (·.1)).Nodup → L[j]? = some x → adel L x.1 = L.eraseIdx j
  | [], j, _, _, h => by simp at h
  | y :: L, 0, x, hn, h => by
    simp only [List.getElem?_cons_zero, Option.some.injEq] at h
    subst h
    simp only [List.map_cons, List.nodup_cons] at hn
    simp only [adel, List.eraseIdx_zero, List.tail_cons]
    rw [List.filter_cons_of_neg (by simp)]
    apply List.filter_eq_self.2
    intro z hz
    simp only [ne_eq, decide_eq_true_eq]
    exact fun e => hn.1 (List.mem_map.2 ⟨z, hz, e⟩)
  | y :: L, j + 1, x, hn, h => by
    simp only [List.map_cons, List.nodup_cons] at hn
    have h' : L[j]? = some x := by simpa using h
    have hx : y.1 ≠ x.1 := fun e => hn.1 (List.mem_map.2 ⟨x, List.mem_of_getElem? h', e.symm⟩)
    have ih := adel_erase (x := x) hn.2 h'
    simp only [adel] at ih ⊢
    rw [List.filter_cons_of_pos (by simpa using hx), ih, List.eraseIdx_cons_succ]
def flt (V : List Itm) (n : Nm) : List Itm := V.filter fun x => decide (x.1 ≠ n)
theorem nms_flt (V : List Itm) (n : Nm) : nms (flt V n) = adel (nms V) n := by
  rw [nms, nms, flt, adel, List.filter_map]; rfl
theorem flt_take {V : List Itm} {k : Nat} {x : Itm} (n : Nm) (h : V[k]? = some x) : flt (V.take (k + 1)) n = flt (V.take k) n ++ (if x.1 = n then [] else [x]) := by
  rw [List.take_add_one, h, flt, List.filter_append]
  by_cases e : x.1 = n
  · rw [if_pos e]; simp [flt, e]
  · rw [if_neg e]; simp [flt, e]
theorem flt_len (V : List Itm) (n : Nm) : (flt V n).length ≤ V.length := List.length_filter_le ..
theorem ncs_take (V : List Itm) (k : Nat) : ncs (V.take k) = (ncs V).take (k * 2) := by
  induction V generalizing k with
  | nil => simp [ncs]
  | cons x V ih =>
    cases k with
    | zero => simp [ncs]
    | succ k =>
      have l2 : (nc2 x).length = 2 := rfl
      rw [List.take_succ_cons, ncs_cons, ncs_cons, ih, show (k + 1) * 2 = (nc2 x).length + k * 2 from by rw [l2]; omega, List.take_length_add_append]
theorem ncs_drop (V : List Itm) (k : Nat) : ncs (V.drop k) = (ncs V).drop (k * 2) := by
  induction V generalizing k with
  | nil => simp [ncs]
  | cons x V ih =>
    cases k with
    | zero => simp
    | succ k =>
      have l2 : (nc2 x).length = 2 := rfl
      rw [List.drop_succ_cons, ncs_cons, ih, show (k + 1) * 2 = (nc2 x).length + k * 2 from by rw [l2]; omega, List.drop_length_add_append]
theorem ncs_one {V : List Itm} (h : ∀ x ∈ V, x.2.2.oneCell' = true) : ∀ u ∈ ncs V, u.oneCell' = true := by
  intro u hu
  obtain ⟨x, hx, h'⟩ := List.mem_flatMap.1 hu
  simp only [nc2, List.mem_cons, List.not_mem_nil, or_false] at h'
  rcases h' with rfl | rfl
  · rfl
  · exact h x hx
theorem own_onecell {w : World} {b e sz n : Nat} {v : Value} {xs : List Value} (h : w.ownsRow b e sz v n xs) : v.oneCell' = true := by
  obtain ⟨A, c, rfl⟩ := own_shape h
  rfl
theorem RD0.one {Z : Nat → Prop} {p : Nat} {R : DS} {lv bv : Value} {LV BV : List Itm} {w : World} (h : RD0 Z p R lv bv LV BV w) : (∀ u ∈ ncs LV, u.oneCell' = true) ∧ (∀ u ∈ ncs BV, u.oneCell' = true) :=
  ⟨ncs_one fun x hx => own_onecell (h.data x (.inl hx)), ncs_one fun x hx => own_onecell (h.data x (.inr hx))⟩
theorem sl_head {b n c sz k : Nat} {xs : List Value} {w : World} (h : Sl (some ⟨b, 0, none⟩) n c sz xs w) (hk : k ≤ n) : Sl (some ⟨b, 0, none⟩) k c sz (xs.take (k * sz)) w := by
  obtain ⟨h1, h2, h3⟩ := h
  refine ⟨?_, by omega, fun h => ⟨b, 0, rfl, fun j u hj => ?_⟩⟩
  · rw [List.length_take, h1]
    have := Nat.mul_le_mul_right sz hk
    omega
  · obtain ⟨b', o', e, hr⟩ := h3 (by omega)
    injection e with e; injection e with e1 e2; subst e1 e2
    rw [List.getElem?_take] at hj
    split at hj
    · exact hr j u hj
    · cases hj
theorem sl_tail {b n c sz k : Nat} {xs : List Value} {w : World} (h : Sl (some ⟨b, 0, none⟩) n c sz xs w) (hk : k ≤ n) : Sl (if c = k then some ⟨b, 0, none⟩ else some ⟨b, k * sz, none⟩) (n - k) (c - k) sz (xs.drop (k * sz)) w := by
  obtain ⟨h1, h2, h3⟩ := h
  refine ⟨?_, by omega, fun h => ⟨b, k * sz, by rw [if_neg (by omega)], fun j u hj => ?_⟩⟩
  · rw [List.length_drop, h1, Nat.sub_mul]
  · obtain ⟨b', o', e, hr⟩ := h3 (by omega)
    injection e with e; injection e with e1 e2; subst e1 e2
    rw [List.getElem?_drop] at hj
    have := hr _ u hj
    rwa [Nat.zero_add] at this
theorem sl_two {w : World} {m : Nat} (hm : m = w.heap.size) (a b : Value) (t : TypeId) : Sl (some ⟨m, 0, none⟩) 1 1 2 [a, b] (w.alloc (.cells #[a, b] t)) := by
  subst hm
  refine ⟨rfl, Nat.le_refl _, fun _ => ⟨_, 0, rfl, fun j u hj => ?_⟩⟩
  rw [Nat.zero_add, blk_cell (blk_new w _)]
  simpa using hj
theorem two_ok (s : ByteArray) (A : Option Addr) (n c : Nat) : ∀ u ∈ [Value.string s, Value.slice A n c], u.oneCell' = true := by
  intro u hu
  simp at hu
  rcases hu with rfl | rfl <;> rfl
end Go.Proofs.Ytdlbccjimdghkaa
