/- The document's disk in memory: put, walked once. No condition but that it lies as RD says, and is not great. -/
import Derived.Test.YtdlbccjimdghkaaHH
namespace Go.Proofs.Ytdlbccjimdghkaa
open Go.RowKit
set_option linter.unusedVariables false
set_option linter.unusedSimpArgs false
def gtN (z s : Nm) : Bool := !(Op.bytesLess z.toList s.toList || z.toList == s.toList)
def insS {β : Type} (f : Nm × β) (q : List (Nm × β) × Bool) (x : Nm × β) : List (Nm × β) × Bool := if gtN x.1 f.1 = true ∧ q.2 = false then (q.1 ++ [f] ++ [x], true) else (q.1 ++ [x], q.2)
def insT {β : Type} (f : Nm × β) (V : List (Nm × β)) : List (Nm × β) × Bool := V.foldl (insS f) ([], false)
/-- put among the others -/
def insG {β : Type} (f : Nm × β) (V : List (Nm × β)) : List (Nm × β) := if (insT f V).2 then (insT f V).1 else (insT f V).1 ++ [f]
theorem insT_take {β : Type} {V : List (Nm × β)} {k : Nat} {x : Nm × β} (f : Nm × β) (h : V[k]? = some x) : insT f (V.take (k + 1)) = insS f (insT f (V.take k)) x := by
  rw [List.take_add_one, h, insT, List.foldl_append]; rfl
theorem insT_len {β : Type} (f : Nm × β) (V : List (Nm × β)) : (insT f V).1.length ≤ 2 * V.length := by
  unfold insT
  suffices ∀ (V : List (Nm × β)) (q : List (Nm × β) × Bool), (V.foldl (insS f) q).1.length ≤ q.1.length + 2 * V.length by simpa using this V ([], false)
  intro V
  induction V with
  | nil => intro q; simp
  | cons x V ih =>
    intro q
    have := ih (insS f q x)
    have h : (insS f q x).1.length ≤ q.1.length + 2 := by unfold insS; split <;> simp
    simp only [List.foldl_cons, List.length_cons] at this ⊢
    omega
theorem insT_mem {β : Type} (f : Nm × β) (V : List (Nm × β)) : ∀ x ∈ (insT f V).1, x = f ∨ x ∈ V := by
  unfold insT
  suffices ∀ (V : List (Nm × β)) (q : List (Nm × β) × Bool), ∀ x ∈ (V.foldl (insS f) q).1, x = f ∨ x ∈ q.1 ∨ x ∈ V by
    intro x hx
    rcases this V ([], false) x hx with h | h | h
    · exact .inl h
    · cases h
    · exact .inr h
  intro V
  induction V with
  | nil => intro q x hx; exact .inr (.inl hx)
  | cons y V ih =>
    intro q x hx
    rcases ih _ x hx with h | h | h
    · exact .inl h
    · unfold insS at h
      split at h <;> simp only [List.mem_append, List.mem_singleton] at h <;> simp only [List.mem_cons]
      · rcases h with (h | h) | h <;> simp [h]
      · rcases h with h | h <;> simp [h]
    · simp [h]
theorem insG_mem {β : Type} {f : Nm × β} {V : List (Nm × β)} : ∀ x ∈ insG f V, x = f ∨ x ∈ V := by
  intro x hx
  unfold insG at hx
  split at hx
  · exact insT_mem f V x hx
  · rcases List.mem_append.1 hx with h | h
    · exact insT_mem f V x h
    · exact .inl (List.mem_singleton.1 h)
theorem insT_nms (f : Itm) (V : List Itm) : (nms (insT f V).1, (insT f V).2) = insT (f.1, f.2.1) (nms V) := by
  unfold insT
  suffices ∀ (V : List Itm) (q : List Itm × Bool), (nms (V.foldl (insS f) q).1, (V.foldl (insS f) q).2) = (nms V).foldl (insS (f.1, f.2.1)) (nms q.1, q.2) from this V ([], false)
  intro V
  induction V with
  | nil => intro q; rfl
  | cons x V ih =>
    intro q
    rw [List.foldl_cons, ih, show nms (x :: V) = (x.1, x.2.1) :: nms V from rfl, List.foldl_cons]
    congr 1
    unfold insS
    by_cases h : gtN x.1 f.1 = true ∧ q.2 = false
    · rw [if_pos h, if_pos h]; simp [nms]
    · rw [if_neg h, if_neg h]; simp [nms]
theorem insG_nms (f : Itm) (V : List Itm) : nms (insG f V) = insG (f.1, f.2.1) (nms V) := by
  unfold insG
  rw [← insT_nms]
  split
  · rfl
  · simp [nms]
theorem qput_end {Z : Nat → Prop} {p : Nat} {R : DS} {lv bv : Value} {LV BV K : List Itm} {w wr w' : World} {nm : Nm} {xb : By} {xv nv : Value} {kn base : Nat} (h : RD0 Z p R lv bv LV BV w) (hk : Kp All w wr) (hS : Kp (fun i => i ≠ p) wr w') (hvz : ∀ b, xv.ownBlock = some b → Z b)
    (hc : w'.heap[p]? = some (.cells (rcs R nv bv) 77 (0, 0))) (hK : insG (nm, xb, xv) LV = K) (hkn : K.length = kn) (hown : wr.ownsRow base 94 2 nv kn (ncs K)) (hv : w.ownsRow 0 5 1 xv xb.length (u8s xb)) (hb : w.heap.size ≤ base) :
    Rx Z p { R with F := insG (nm, xb) R.F } w w' := by
  have hcr : wr.heap[p]? = _ := hk.heap h.cell trivial
  have hpt : ∀ {e sz n : Nat} {u : Value} {xs : List Value}, wr.ownsRow 0 e sz u n xs → e ≠ 77 → ∀ i, u.ownBlock = some i → i ≠ p := fun hu he i hi => by
    obtain ⟨cur, hc⟩ := own_ty hu hi
    exact ty_ne hc hcr he
  have h1 := h.all hk
  have ho0 := World.ownsRow.mono hown (Nat.zero_le _)
  have hv1 := own_kept hv hk (fun _ _ => trivial)
  subst hK hkn
  refine Rx.mk' h ((hk.mono fun _ _ _ => trivial).then hS fun i hi hn e => hn (e ▸ h.zp)) (lv' := nv) (bv' := bv) (LV' := insG (nm, xb, xv) LV) (BV' := BV) hc ?_ h.be (own_kept ho0 hS (hpt ho0 (by decide))) (own_kept h1.br hS (hpt h1.br (by decide))) ?_ ?_ ?_
  · show insG (nm, xb) R.F = _
    rw [insG_nms, h.fe]
  · rintro x (hx | hx)
    · rcases insG_mem x hx with rfl | hx
      · exact ⟨own_kept hv1 hS (hpt hv1 (by decide)), fun b hb => .inl (hvz b hb)⟩
      · exact ⟨own_kept (h1.data x (.inl hx)) hS (hpt (h1.data x (.inl hx)) (by decide)), fun b hb => .inl (h.zd x (.inl hx) b hb)⟩
    · exact ⟨own_kept (h1.data x (.inr hx)) hS (hpt (h1.data x (.inr hx)) (by decide)), fun b hb => .inl (h.zd x (.inr hx) b hb)⟩
  · exact fun b hb' => .inr (Nat.le_trans hb (hown.lt b hb').1)
  · exact fun b hb' => .inl (h.zb b hb')
set_option maxRecDepth 100000 in
set_option maxHeartbeats 4000000 in
theorem qput_any (Z : Nat → Prop) (p : Nat) (R : DS) (nm : Nm) (xb : By) (XA : Option Addr) (xl xc : Nat) (hxl : xb.length = xl) (w : World) (h : RD Z p R w) (hl : R.F.length ≤ 1000000)
    (hv : w.ownsRow 0 5 1 (.slice XA xl xc) xl (u8s xb)) (hvz : ∀ b, (Value.slice XA xl xc).ownBlock = some b → Z b) :
    Calls Try.prog 74 #[.pointer (some ⟨p, 0, none⟩), .agg #[.string nm, .slice XA xl xc]] w fun e w' => e = .returned (.tuple #[]) ∧ Rx Z p { R with F := insG (nm, xb) R.F } w w' := by
  obtain ⟨lv, bv, LV, BV, h⟩ := h
  obtain ⟨LA, lc, rfl⟩ := own_shape h.fr
  obtain ⟨n, hn⟩ : ∃ n, LV.length = n := ⟨_, rfl⟩
  have hl' : n ≤ 1000000 := by rw [← hn]; have := hl; rw [h.fe, nms, List.length_map] at this; exact this
  have H := hid h
  have HN := hid hn
  have HV := hid hv
  have HVZ := hid hvz
  have HXL := hid hxl
  have c0 := blk_cell h.cell
  unfold rcs at c0
  rw [hn] at c0
  have hs2 : p < w.heap.size := blk_lt h.cell

  clear h hl hn hv hvz hxl
  go_enter Try.func74, Try.ntmps74
  go_wp2_with fail
  go_loopw [4, 5, 13] (fun x d i wr => ∃ k : Nat, k ≤ n ∧ i = .int .i64 k ∧ d = .bool (insT (nm, xb, .slice XA xl xc) (LV.take k)).2 ∧ Hid (wr.ownsRow (w.heap.size + 1) 94 2 x (insT (nm, xb, .slice XA xl xc) (LV.take k)).1.length (ncs (insT (nm, xb, .slice XA xl xc) (LV.take k)).1)) ∧ Hid (Kp All (w.alloc (.cells #[.string nm, .slice XA xl xc] 94)) wr)) (fun _ _ i _ => n - (intOf i).toNat)
  case atStart => exact ⟨0, Nat.zero_le _, rfl, by simp [insT], hid (by simp only [List.take_zero, insT, List.foldl_nil, ncs, List.flatMap_nil, List.length_nil]; exact World.ownsRow_nil _ _ _ _), Kp.refl _ _⟩
  case round =>
    obtain ⟨k, hk, rfl, rfl, hown, hkp⟩ := hrel
    obtain ⟨q, hq⟩ : ∃ q, insT (nm, xb, .slice XA xl xc) (LV.take k) = q := ⟨_, rfl⟩
    rw [hq] at hown
    obtain ⟨K, d⟩ := q
    have HQ := hid hq
    have hKl : K.length ≤ 2000000 := by
      have h1 := insT_len (nm, xb, Value.slice XA xl xc) (LV.take k)
      rw [hq, List.length_take, HN.out] at h1
      simp only at h1
      omega
    rw [hq]
    dsimp only at hown ⊢
    obtain ⟨kn, hkn⟩ : ∃ kn, K.length = kn := ⟨_, rfl⟩
    have HKN := hid hkn
    rw [hkn] at hown hKl
    obtain ⟨VA, vc, rfl⟩ := own_shape hown.out
    have hbf := hkp.out.heap (blk_new w (.cells #[.string nm, .slice XA xl xc] 94)) trivial
    have cf := blk_cell hbf
    have hsw : w.heap.size < wr.heap.size := blk_lt hbf
    have HBF := hid hbf
    clear hbf
    have hkw : Kp All w wr := (Kp.al w _).then hkp.out (fun _ _ _ => trivial)
    have HKW := hid hkw
    clear hq hkn
    by_cases hlt : k < n
    · have hb0 : decide ((k : Int) < (n : Int)) = true := decide_eq_true (by omega)
      obtain ⟨y, hy⟩ : ∃ y, LV[k]? = some y := ⟨_, List.getElem?_eq_getElem (by rw [HN.out]; exact hlt)⟩
      obtain ⟨b, eA, p0, p1, hb1⟩ := own_item (own_kept H.out.fr hkw (fun _ _ => trivial)) rfl hy
      have hyv := own_kept (H.out.data _ (.inl (List.mem_of_getElem? hy))) hkw (fun _ _ => trivial)
      subst eA
      have HTK := hid (insT_take (nm, xb, Value.slice XA xl xc) hy)
      rw [HQ.out] at HTK
      obtain ⟨z, zb, zv⟩ := y
      obtain ⟨ZA, zc, hzv, _⟩ := own_sl8 hyv
      dsimp only at p0 p1 hzv
      subst hzv
      obtain ⟨zl, hzl⟩ : ∃ zl, zb.length = zl := ⟨_, rfl⟩
      have HZL := hid hzl
      rw [hzl] at p1 HTK
      have i0 : (0 : Int) ≤ (k : Int) := by omega
      have i1 : (k : Int) < (n : Int) := by omega
      obtain ⟨b1, hb1'⟩ : ∃ b1, Op.bytesLess z.toList nm.toList = b1 := ⟨_, rfl⟩
      obtain ⟨b2, hb2'⟩ : ∃ b2, (z.toList == nm.toList) = b2 := ⟨_, rfl⟩
      have HG := hid (show gtN z nm = !(b1 || b2) by rw [gtN, hb1', hb2'])
      clear hy hyv hzl hkw
      by_cases hz : b1 = false ∧ b2 = false
      · obtain ⟨rfl, rfl⟩ := hz
        cases d with
        | false =>
          have HS := hid (show insT (nm, xb, .slice XA xl xc) (LV.take (k + 1)) = (K ++ [(nm, xb, .slice XA xl xc)] ++ [(z, zb, .slice ZA zl zc)], true) by rw [HTK.out, insS, if_pos ⟨HG.out, rfl⟩])
          go_wp2_with (at_builtin; first | (refine wpList_app elF (HOW4.out.alloc _) (sl_two rfl (.string z) (.slice ZA zl zc) _) (two_ok _ _ _ _) ?_ (by have h := HK4.out.size; simp at h ⊢; omega) rfl _ _ rfl rfl rfl ?_; omega; intro v' w5 hown5 hg5 hob5 hnil5; obtain ⟨A5, c5', rfl⟩ := own_shape hown5; have HOW5 := hid hown5; have HG5 := hid hg5; clear hown5 hg5 hob5 hnil5) | (go_loud (refine wpList_app elF ((hown.out.alloc _).alloc _) (sl_two (m := wr.heap.size + 1) (by simp) (.string nm) (.slice XA xl xc) _) (two_ok _ _ _ _) ?_ (Nat.le_trans hsw (by simp; omega)) rfl _ _ rfl rfl rfl ?_); omega; intro v' w4 hown4 hg4 hob4 hnil4; obtain ⟨A4, c4', rfl⟩ := own_shape hown4; have hk4 := ((hkp.out.alloc (.cells #[.string z, .slice ZA zl zc] 94)).alloc (.cells #[.string nm, .slice XA xl xc] 94)).then (Kp.grown hg4) (fun i hi _ e => by have := (hown.out.lt i e.symm).1; simp at hi; omega); have HK4 := hid (show Kp All (w.alloc (.cells #[.string nm, .slice XA xl xc] 94)) w4 from hk4); have c4 := blk_cell ((Kp.grown hg4).heap (blk_alloc (blk_new wr _) _) (fun e => by have := (hown.out.lt _ e.symm).2; omega)); have HOW4 := hid hown4; have HG4 := hid hg4; clear hown4 hg4 hob4 hnil4 hk4))
          go_wp2_with fail
          refine ⟨⟨k + 1, by omega, by go_num, by rw [HS.out], ?_, ?_⟩, by simp [intOf]; omega⟩
          · rw [HS.out]
            have e1 : (K ++ [(nm, xb, Value.slice XA xl xc)] ++ [(z, zb, Value.slice ZA zl zc)]).length = kn + 1 + 1 := by rw [List.length_append, List.length_append, HKN.out]; rfl
            rw [e1, ncs_app, ncs_app]
            exact hid HOW5.out
          · exact hid ((HK4.out.alloc _).then (Kp.grown HG5.out) (fun i hi _ e => by have := (HOW4.out.lt i e.symm).1; simp at hi; omega))
        | true =>
          have HS := hid (show insT (nm, xb, .slice XA xl xc) (LV.take (k + 1)) = (K ++ [(z, zb, .slice ZA zl zc)], true) by rw [HTK.out, insS, if_neg (fun h => by cases h.2)])
          go_wp2_with (at_builtin; go_loud (refine wpList_app elF ((hown.out.alloc _).alloc _) (sl_two (m := wr.heap.size + 1) (by simp) (.string z) (.slice ZA zl zc) _) (two_ok _ _ _ _) ?_ (Nat.le_trans hsw (by simp; omega)) rfl _ _ rfl rfl rfl ?_); omega; intro v' w4 hown4 hg4 hob4 hnil4; obtain ⟨A4, c4', rfl⟩ := own_shape hown4; have HOW4 := hid hown4; have HG4 := hid hg4; clear hown4 hg4 hob4 hnil4)
          go_wp2_with fail
          refine ⟨⟨k + 1, by omega, by go_num, by rw [HS.out], ?_, ?_⟩, by simp [intOf]; omega⟩
          · rw [HS.out]
            have e1 : (K ++ [(z, zb, Value.slice ZA zl zc)]).length = kn + 1 := by rw [List.length_append, HKN.out]; rfl
            rw [e1, ncs_app]
            exact hid HOW4.out
          · exact hid (((hkp.out.alloc _).alloc _).then (Kp.grown HG4.out) (fun i hi _ e => by have := (hown.out.lt i e.symm).1; simp at hi; omega))
      · have HS := hid (show insT (nm, xb, .slice XA xl xc) (LV.take (k + 1)) = (K ++ [(z, zb, .slice ZA zl zc)], d) by
          rw [HTK.out, insS, if_neg]
          rintro ⟨h1, _⟩
          apply hz
          rw [HG.out] at h1
          cases b1 <;> cases b2 <;> first | exact ⟨rfl, rfl⟩ | cases h1)
        have hor : (b1 || b2) = true := by cases b1 <;> cases b2 <;> first | rfl | exact absurd ⟨rfl, rfl⟩ hz
        clear hz
        have HOR := hid hor
        have hcs : b1 = true ∨ (b1 = false ∧ b2 = true) := by cases b1 <;> cases b2 <;> simp_all
        clear hor
        refine or2 hcs ?kA ?kB
        case' kA => (rintro rfl)
        case' kB => (rintro ⟨rfl, rfl⟩)
        all_goals (
          cases d
          all_goals (
            go_wp2_with (at_builtin; go_loud (refine wpList_app elF ((hown.out.alloc _).alloc _) (sl_two (m := wr.heap.size + 1) (by simp) (.string z) (.slice ZA zl zc) _) (two_ok _ _ _ _) ?_ (Nat.le_trans hsw (by simp; omega)) rfl _ _ rfl rfl rfl ?_); omega; intro v' w4 hown4 hg4 hob4 hnil4; obtain ⟨A4, c4', rfl⟩ := own_shape hown4; have HOW4 := hid hown4; have HG4 := hid hg4; clear hown4 hg4 hob4 hnil4)
            go_wp2_with fail
            refine ⟨⟨k + 1, by omega, by go_num, by rw [HS.out], ?_, ?_⟩, by simp [intOf]; omega⟩
            · rw [HS.out]
              have e1 : (K ++ [(z, zb, Value.slice ZA zl zc)]).length = kn + 1 := by rw [List.length_append, HKN.out]; rfl
              rw [e1, ncs_app]
              exact hid HOW4.out
            · exact hid (((hkp.out.alloc _).alloc _).then (Kp.grown HG4.out) (fun i hi _ e => by have := (hown.out.lt i e.symm).1; simp at hi; omega))))
    · have hb0 : decide ((k : Int) < (n : Int)) = false := decide_eq_false (by omega)
      obtain rfl : k = n := by omega
      have HFIN := hid (show insT (nm, xb, .slice XA xl xc) LV = (K, d) by rw [← HQ.out, List.take_of_length_le (by rw [HN.out]; exact Nat.le_refl _)])
      have hcw := HKW.out.heap H.out.cell trivial
      have cw := blk_cell hcw
      have fw := blk_free hcw
      have HCW := hid hcw
      unfold rcs at cw
      rw [HN.out] at cw
      clear hcw hkw
      cases d with
      | true =>
        have HIA := hid (show insG (nm, xb, .slice XA xl xc) LV = K by rw [insG, HFIN.out]; rfl)
        go_wp2_with fail
        go_end0
        refine ⟨rfl, ?_⟩
        have kF : Kp (fun z => z ≠ p) wr (wr.setCell ⟨p, 1, none⟩ (.slice VA kn vc)) := (Kp.refl _ _).setOut (by simp) _
        refine qput_end H.out HKW.out kF HVZ.out (by rw [blk_set HCW.out 1]; rfl) HIA.out HKN.out (hown.out) (by rw [HXL.out]; exact HV.out) (Nat.le_succ _)
      | false =>
        have HIA := hid (show insG (nm, xb, .slice XA xl xc) LV = K ++ [(nm, xb, .slice XA xl xc)] by rw [insG, HFIN.out]; rfl)
        go_wp2_with (at_builtin; go_loud (refine wpList_app elF (hown.out.alloc _) (sl_two rfl (.string nm) (.slice XA xl xc) _) (two_ok _ _ _ _) ?_ (Nat.le_trans hsw (by simp)) rfl _ _ rfl rfl rfl ?_); omega; intro v' w4 hown4 hg4 hob4 hnil4; obtain ⟨A4, c4', rfl⟩ := own_shape hown4; have hk4 := ((HKW.out.alloc (.cells #[.string nm, .slice XA xl xc] 94)).then (Kp.grown hg4) (fun i hi _ e => by have := (hown.out.lt i e.symm).1; omega)); have hc4 := hk4.heap H.out.cell trivial; have c4 := blk_cell hc4; have f4 := blk_free hc4; have HC4 := hid hc4; have HK4 := hid hk4; have HOW4 := hid hown4; unfold rcs at c4; clear hown4 hg4 hob4 hnil4 hk4 hc4)
        go_wp2_with fail
        go_end0
        refine ⟨rfl, ?_⟩
        have kF : Kp (fun z => z ≠ p) w4 (w4.setCell ⟨p, 1, none⟩ (.slice A4 (kn + 1) c4')) := (Kp.refl _ _).setOut (by simp) _
        have e1 : (K ++ [(nm, xb, Value.slice XA xl xc)]).length = kn + 1 := by rw [List.length_append, HKN.out]; rfl
        refine qput_end H.out HK4.out kF HVZ.out (by rw [blk_set HC4.out 1]; rfl) HIA.out e1 (by rw [ncs_app]; exact HOW4.out) (by rw [HXL.out]; exact HV.out) (Nat.le_succ _)
end Go.Proofs.Ytdlbccjimdghkaa
