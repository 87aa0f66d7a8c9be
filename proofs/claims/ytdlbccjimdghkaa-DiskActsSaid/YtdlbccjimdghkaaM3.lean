/- The document's disk in memory: what it is (RD), and its readers find, needs, Pending: walked once each. No condition but that it lies as RD says. The document's disk in memory: all, needs, Pending: walked once each. No condition but that it lies as RD says, and is not great. The document's disk in memory: Pending, Used, List: walked once each. No condition but that it lies as RD says, and is not great. The document's disk in memory: sure, walked once. No condition but that it lies as RD says, its names are told once, the writes' names are files, and it is not great. -/
import Derived.Test.YtdlbccjimdghkaaDM
import Derived.Laws.OwnMore
namespace Go.Proofs.Ytdlbccjimdghkaa
open Go.RowKit
set_option linter.unusedVariables false
set_option linter.unusedSimpArgs false
theorem elF : El Try.prog 74 94 2 40 (.agg #[.string ⟨#[]⟩, .slice none 0 0]) := ⟨Try.underlying74, by kernel_rfl, rfl, by decide, by decide⟩
theorem elW : El Try.prog 75 96 2 40 (.agg #[.string ⟨#[]⟩, .slice none 0 0]) := ⟨Try.underlying75, by kernel_rfl, rfl, by decide, by decide⟩
abbrev Itm := Nm × By × Value
@[reducible] def nc2 (x : Itm) : List Value := [.string x.1, x.2.2]
/-- named bytes as cells -/
def ncs (V : List Itm) : List Value := V.flatMap nc2
theorem ncs_cons (x : Itm) (V : List Itm) : ncs (x :: V) = nc2 x ++ ncs V := by rw [ncs, List.flatMap_cons]; rfl
theorem ncs_app (V U : List Itm) : ncs (V ++ U) = ncs V ++ ncs U := by simp [ncs]
theorem ncs_len (V : List Itm) : (ncs V).length = V.length * 2 := by
  induction V with
  | nil => rfl
  | cons x V ih =>
    have l2 : (nc2 x).length = 2 := rfl
    rw [ncs_cons, List.length_append, ih, l2, List.length_cons]
    omega
theorem ncs_at {V : List Itm} {k : Nat} {x : Itm} (h : V[k]? = some x) : (ncs V)[k * 2]? = some (.string x.1) ∧ (ncs V)[k * 2 + 1]? = some x.2.2 := by
  induction V generalizing k with
  | nil => simp at h
  | cons q V ih =>
    cases k with
    | zero => simp at h; subst h; exact ⟨rfl, rfl⟩
    | succ k =>
      have := ih (k := k) (by simpa using h)
      rw [ncs_cons]
      have l2 : (nc2 q).length = 2 := rfl
      rw [List.getElem?_append_right (by rw [l2]; omega), List.getElem?_append_right (by rw [l2]; omega), l2, show (k + 1) * 2 - 2 = k * 2 from by omega, show (k + 1) * 2 + 1 - 2 = k * 2 + 1 from by omega]
      exact this
def nms (V : List Itm) : List (Nm × By) := V.map fun x => (x.1, x.2.1)
@[reducible] def rcs (R : DS) (lv bv : Value) : Array Value := #[.int .i64 R.blocks, lv, bv, .bool R.off, .int .i64 R.ops, .int .i64 R.fails, .int .i64 R.keep]
/-- The document's disk lies in block p; all its blocks are of Z. -/
structure RD0 (Z : Nat → Prop) (p : Nat) (R : DS) (lv bv : Value) (LV BV : List Itm) (w : World) : Prop where
  cell : w.heap[p]? = some (.cells (rcs R lv bv) 77 (0, 0))
  fe : R.F = nms LV
  be : R.B = nms BV
  fr : w.ownsRow 0 94 2 lv LV.length (ncs LV)
  br : w.ownsRow 0 96 2 bv BV.length (ncs BV)
  data : ∀ x, x ∈ LV ∨ x ∈ BV → w.ownsRow 0 5 1 x.2.2 x.2.1.length (u8s x.2.1)
  zp : Z p
  zl : ∀ b, lv.ownBlock = some b → Z b
  zb : ∀ b, bv.ownBlock = some b → Z b
  zd : ∀ x, x ∈ LV ∨ x ∈ BV → ∀ b, x.2.2.ownBlock = some b → Z b
  lt : ∀ b, Z b → b < w.heap.size
def RD (Z : Nat → Prop) (p : Nat) (R : DS) (w : World) : Prop := ∃ lv bv LV BV, RD0 Z p R lv bv LV BV w
theorem RD0.kept {Z S : Nat → Prop} {p : Nat} {R : DS} {lv bv : Value} {LV BV : List Itm} {w w' : World} (h : RD0 Z p R lv bv LV BV w) (k : Kp S w w') (hs : ∀ b, Z b → S b) : RD0 Z p R lv bv LV BV w' where
  cell := k.heap h.cell (hs _ h.zp)
  fe := h.fe
  be := h.be
  fr := own_kept h.fr k fun b hb => hs b (h.zl b hb)
  br := own_kept h.br k fun b hb => hs b (h.zb b hb)
  data := fun x hx => own_kept (h.data x hx) k fun b hb => hs b (h.zd x hx b hb)
  zp := h.zp
  zl := h.zl
  zb := h.zb
  zd := h.zd
  lt := fun b hb => Nat.lt_of_lt_of_le (h.lt b hb) k.size
theorem RD0.all {Z : Nat → Prop} {p : Nat} {R : DS} {lv bv : Value} {LV BV : List Itm} {w w' : World} (h : RD0 Z p R lv bv LV BV w) (k : Kp All w w') : RD0 Z p R lv bv LV BV w' := h.kept k fun _ _ => trivial
theorem RD.kept {Z S : Nat → Prop} {p : Nat} {R : DS} {w w' : World} (h : RD Z p R w) (k : Kp S w w') (hs : ∀ b, Z b → S b) : RD Z p R w' := by
  obtain ⟨lv, bv, LV, BV, h⟩ := h
  exact ⟨lv, bv, LV, BV, h.kept k hs⟩
theorem RD.all {Z : Nat → Prop} {p : Nat} {R : DS} {w w' : World} (h : RD Z p R w) (k : Kp All w w') : RD Z p R w' := h.kept k fun _ _ => trivial
theorem own_foot {w : World} {base e n c sz : Nat} {A : Option Addr} {xs : List Value} (h : w.ownsRow base e sz (.slice A n c) n xs) : Foot All (Sl A n c sz xs) w := by
  obtain ⟨A', c', e1, hf⟩ := sl_own h
  injection e1 with e1 e2 e3
  subst e1 e3
  exact hf.mono fun _ _ _ => trivial
/-- The k-th of a row of named bytes. -/
theorem own_item {w : World} {base e n c : Nat} {A : Option Addr} {V : List Itm} (h : w.ownsRow base e 2 (.slice A n c) n (ncs V)) (hn : n = V.length) {k : Nat} {x : Itm} (hx : V[k]? = some x) :
    ∃ b, A = some ⟨b, 0, none⟩ ∧ w.cell? ⟨b, k * 2, none⟩ = some (.string x.1) ∧ w.cell? ⟨b, k * 2 + 1, none⟩ = some x.2.2 ∧ b < w.heap.size := by
  have hk := (List.getElem?_eq_some_iff.1 hx).1
  rcases own_at h with ⟨e, h0, _⟩ | ⟨g, cap, cur, e, hg, _, hat⟩
  · omega
  · injection e with e1 e2 e3
    obtain ⟨h1, h2⟩ := ncs_at hx
    exact ⟨g, e1, hat _ _ h1, hat _ _ h2, blk_lt hg⟩
theorem nm_ne {s t : Nm} (h : s ≠ t) : ¬ s.toList = t.toList := fun e => h (by
  rw [ByteArray.toList_eq, ByteArray.toList_eq] at e
  cases s; cases t
  simp only at e
  congr 1
  exact Array.toList_inj.1 e)
def findN (F : List (Nm × By)) (n : Nm) : Int := match F.findIdx? (fun x => decide (x.1 = n)) with | some i => (i : Int) | none => -1
theorem findN_at {F : List (Nm × By)} {n : Nm} {k : Nat} {x : Nm × By} (h : F[k]? = some x) (he : x.1 = n) (hl : ∀ j < k, ∀ y, F[j]? = some y → y.1 ≠ n) : findN F n = k := by
  have : F.findIdx? (fun x => decide (x.1 = n)) = some k := by
    rw [List.findIdx?_eq_some_iff_getElem]
    obtain ⟨hk, hx⟩ := List.getElem?_eq_some_iff.1 h
    refine ⟨hk, by rw [hx]; simp [he], fun j hj => ?_⟩
    have := hl j hj _ (List.getElem?_eq_getElem (by omega))
    simpa using this
  rw [findN, this]
theorem findN_none {F : List (Nm × By)} {n : Nm} (hl : ∀ j < F.length, ∀ y, F[j]? = some y → y.1 ≠ n) : findN F n = -1 := by
  have : F.findIdx? (fun x => decide (x.1 = n)) = none := by
    rw [List.findIdx?_eq_none_iff]
    intro x hx
    obtain ⟨j, hj⟩ := List.mem_iff_getElem?.1 hx
    have := hl j (List.getElem?_eq_some_iff.1 hj).1 x hj
    simpa using this
  rw [findN, this]
theorem nms_at {V : List Itm} {k : Nat} : (nms V)[k]? = (V[k]?).map fun x => (x.1, x.2.1) := by rw [nms, List.getElem?_map]
set_option maxRecDepth 100000 in
theorem qfind_any (Z : Nat → Prop) (p : Nat) (R : DS) (name : Nm) (w : World) (h : RD Z p R w) (hl : R.F.length ≤ 1000000) :
    Calls Try.prog 72 #[.pointer (some ⟨p, 0, none⟩), .string name] w fun e w' => e = .returned (.int .i64 (findN R.F name)) ∧ Kp All w w' := by
  obtain ⟨lv, bv, LV, BV, h⟩ := h
  obtain ⟨A, c, rfl⟩ := own_shape h.fr
  have H := hid h
  have c0 := blk_cell h.cell
  have hlen : R.F.length = LV.length := by rw [h.fe, nms, List.length_map]
  obtain ⟨n, hn⟩ : ∃ n, LV.length = n := ⟨_, rfl⟩
  have HN := hid hn
  have HF := hid h.fe
  rw [hn] at c0
  have hn2 : n ≤ 1000000 := by omega
  clear h hn hl hlen
  go_enter Try.func72, Try.ntmps72
  go_wp2_with fail
  go_loopw [12] (fun i wr => ∃ k : Nat, k ≤ n ∧ i = .int .i64 k ∧ Hid (∀ j < k, ∀ y, R.F[j]? = some y → y.1 ≠ name) ∧ Hid (Kp All w wr)) (fun i _ => n - (intOf i).toNat)
  case atStart => exact ⟨0, Nat.zero_le _, rfl, hid (fun j hj => absurd hj (by omega)), Kp.refl _ _⟩
  case round =>
    obtain ⟨k, hk, rfl, hno, hkp⟩ := hrel
    by_cases hlt : k < n
    · have hb0 : decide ((k : Int) < (n : Int)) = true := decide_eq_true (by omega)
      obtain ⟨y, hy⟩ : ∃ y, LV[k]? = some y := ⟨_, List.getElem?_eq_getElem (by rw [HN.out]; exact hlt)⟩
      have HY := hid (show R.F[k]? = some (y.1, y.2.1) by rw [HF.out, nms_at, hy]; rfl)
      have hO := (H.out.all hkp.out).fr
      obtain ⟨b, eA, p0, p1, hb1⟩ := own_item hO rfl hy
      subst eA
      obtain ⟨z, yb, yv⟩ := y
      have hyv := (H.out.all hkp.out).data _ (.inl (List.mem_of_getElem? hy))
      obtain ⟨YA, yc, hyv'⟩ := own_shape hyv
      dsimp only at p0 p1 hyv'
      subst hyv'
      have i0 : (0 : Int) ≤ (k : Int) := by omega
      have i1 : (k : Int) < (n : Int) := by omega
      clear hy hyv hO
      by_cases he : z = name
      · have hd : (z.toList == name.toList) = true := by simp [he]
        subst he
        go_wp2_with fail
        go_ret
        exact ⟨by rw [findN_at HY.out rfl hno.out]; rfl, hkp.out.alloc _⟩
      · have hd : ¬ z.toList = name.toList := nm_ne he
        have hd2 : (z.toList == name.toList) = false := by simp [hd]
        go_wp2_with fail
        refine ⟨⟨k + 1, by omega, by go_num, hid (fun j hj y hy => ?_), hkp.out.alloc _⟩, by simp [intOf]; omega⟩
        by_cases e : j = k
        · rw [e, HY.out] at hy
          injection hy with hy
          rw [← hy]; exact he
        · exact hno.out j (by omega) y hy
    · have hb0 : decide ((k : Int) < (n : Int)) = false := decide_eq_false (by omega)
      go_wp2_with fail
      go_ret
      have : k = n := by omega
      subst this
      refine ⟨?_, hkp.out⟩
      rw [findN_none (by intro j hj y hy; exact hno.out j (by rw [HF.out, nms, List.length_map, HN.out] at hj; exact hj) y hy)]
      rfl
end Go.Proofs.Ytdlbccjimdghkaa

namespace Go.Proofs.Ytdlbccjimdghkaa
open Go.RowKit
set_option linter.unusedVariables false
set_option linter.unusedSimpArgs false
theorem qneeds_any (n : Nat) (hn : n ≤ 1099511627776) (w : World) : Calls Try.prog 76 #[.int .i64 n] w fun e w' => e = .returned (.int .i64 (needs n)) ∧ w = w' := by
  go_enter Try.func76, Try.ntmps76
  go_wp2
  go_ret
  refine ⟨?_, rfl⟩
  simp [needs]
theorem own_sl8 {w : World} {b : Nat} {v : Value} {xs : By} (h : w.ownsRow b 5 1 v xs.length (u8s xs)) : ∃ A c, v = .slice A xs.length c ∧ Foot All (Sl A xs.length c 1 (u8s xs)) w := by
  obtain ⟨A, c, rfl⟩ := own_shape h
  exact ⟨A, c, rfl, own_foot h⟩
theorem mem_pend {B : List (Nm × By)} {x : Nm × By} (h : x ∈ B) : x.2.length ≤ pend B := by
  induction B with
  | nil => cases h
  | cons y l ih =>
    simp only [pend, List.map_cons, List.sum_cons] at ih ⊢
    rcases List.mem_cons.1 h with rfl | h
    · omega
    · have := ih h; omega
def Out8 (w : World) (xs : By) (e : Ending) (w' : World) : Prop := (∃ v, e = .returned v ∧ w'.ownsRow w.heap.size 5 1 v xs.length (u8s xs)) ∧ Kp All w w'
theorem cell_item {w : World} {base e n c : Nat} {A : Option Addr} {V : List Itm} (h : w.ownsRow base e 2 (.slice A n c) n (ncs V)) (hn : n = V.length) {k : Nat} {x : Itm} (hx : V[k]? = some x) : ∃ b, A = some ⟨b, 0, none⟩ ∧ w.cell? ⟨b, k * 2, none⟩ = some (.string x.1) ∧ w.cell? ⟨b, k * 2 + 1, none⟩ = some x.2.2 ∧ b < w.heap.size := own_item h hn hx
set_option maxRecDepth 100000 in
set_option maxHeartbeats 2000000 in
theorem qall_any (Z : Nat → Prop) (p : Nat) (R : DS) (k0 : Nat) (x0 : Nm × By) (w : World) (h : RD Z p R w) (hx : R.F[k0]? = some x0) (hl : R.F.length ≤ 1000000) (hb : R.B.length ≤ 1000000) (hs : x0.2.length + pend R.B ≤ 1000000000000) :
    Calls Try.prog 75 #[.pointer (some ⟨p, 0, none⟩), .int .i64 k0] w (Out8 w (x0.2 ++ pieces R.B x0.1)) := by
  obtain ⟨lv, bv, LV, BV, h⟩ := h
  obtain ⟨LA, lc, rfl⟩ := own_shape h.fr
  obtain ⟨BA, bc, rfl⟩ := own_shape h.br
  have H := hid h
  have HL0 := hid (show R.F.length = LV.length by rw [h.fe, nms, List.length_map])
  have HB0 := hid (show R.B.length = BV.length by rw [h.be, nms, List.length_map])
  obtain ⟨y, hy⟩ : ∃ y, LV[k0]? = some y := by
    have := (List.getElem?_eq_some_iff.1 hx).1
    exact ⟨_, List.getElem?_eq_getElem (by rw [← HL0.out]; exact this)⟩
  have hxy : x0 = (y.1, y.2.1) := by
    have := hx
    rw [h.fe, nms_at, hy] at this
    injection this with this
    exact this.symm
  obtain ⟨nm, by0, v0⟩ := y
  dsimp only at hxy
  subst hxy
  obtain ⟨lb, eLA, q0, q1, hlb⟩ := own_item h.fr rfl hy
  subst eLA
  have hd0 := h.data _ (.inl (List.mem_of_getElem? hy))
  obtain ⟨A0, c0', hv0, hS0⟩ := own_sl8 hd0
  dsimp only at hv0 q0 q1 hS0 hs
  subst hv0
  obtain ⟨s0, hs0⟩ : ∃ s0, by0.length = s0 := ⟨_, rfl⟩
  have HS0 := hid hs0
  rw [hs0] at q1 hS0 hs
  have HSL := hid hS0
  have cp := blk_cell h.cell
  obtain ⟨nl, hnl⟩ : ∃ nl, LV.length = nl := ⟨_, rfl⟩
  have HNL := hid hnl
  obtain ⟨nb, hnb⟩ : ∃ nb, BV.length = nb := ⟨_, rfl⟩
  have HNB := hid hnb
  have hk0 : k0 < nl := by rw [← hnl]; exact (List.getElem?_eq_some_iff.1 hy).1
  rw [hnl, hnb] at cp
  have i0 : (0 : Int) ≤ (k0 : Int) := by omega
  have i1 : (k0 : Int) < (nl : Int) := by omega
  have HQ0 := hid q0
  have HBB := hid hs
  have hnbl : nb ≤ 1000000 := by have := HB0.out; omega
  have hpl := blk_lt h.cell
  clear h hy hx hd0 hnl hnb hS0 hs0 hs hl hb
  go_enter Try.func75, Try.ntmps75
  go_wp2_with (at_builtin; go_loud (refine wpList_app el8 (own_build0 (base := w.heap.size) (Nat.le_refl _)) ((HSL.out.step (Kp.al _ _)).now) (u8s_one by0) ?_ (by simp) rfl _ _ rfl rfl rfl ?_); (have := HBB.out; omega); intro v' w2 hown2 hg2 hob2 hnil2; obtain ⟨A2, c2', rfl⟩ := own_shape hown2; rw [List.nil_append, Nat.zero_add] at hown2; have hk2 := (Kp.al w (.cells #[] 5)).then (Kp.grown hg2) (fun i hi _ e => by simp [Value.ownBlock] at e; omega); have cp2 := blk_cell (hk2.heap H.out.cell trivial); rw [HNL.out, HNB.out] at cp2; have HOW := hid hown2; have HK2 := hid hk2; clear hown2 hg2 hob2 hnil2 hk2)
  go_wp2_with fail
  have hst : w2.ownsRow w.heap.size 5 1 (.slice A2 s0 c2') (by0 ++ pieces (R.B.take 0) nm).length (u8s (by0 ++ pieces (R.B.take 0) nm)) := by
    simp only [List.take_zero, pieces, List.flatMap_nil, List.append_nil, HS0.out]
    exact HOW.out
  have HST := hid hst
  clear hst
  go_loopw [5, 23] (fun x i wr => ∃ j : Nat, j ≤ nb ∧ i = .int .i64 j ∧ Hid (wr.ownsRow w.heap.size 5 1 x (by0 ++ pieces (R.B.take j) nm).length (u8s (by0 ++ pieces (R.B.take j) nm))) ∧ Hid (Kp All w wr)) (fun _ i _ => nb - (intOf i).toNat)
  case atStart => exact ⟨0, Nat.zero_le _, rfl, HST, HK2⟩
  case round =>
    obtain ⟨j, hj, rfl, hown, hkp⟩ := hrel
    by_cases hlt : j < nb
    · have hb0 : decide ((j : Int) < (nb : Int)) = true := decide_eq_true (by omega)
      obtain ⟨y, hy⟩ : ∃ y, BV[j]? = some y := ⟨_, List.getElem?_eq_getElem (by rw [HNB.out]; exact hlt)⟩
      have HW := hid (H.out.all hkp.out)
      have hby : R.B[j]? = some (y.1, y.2.1) := by rw [H.out.be, nms_at, hy]; rfl
      have HTK := hid (pieces_take (n := nm) hby)
      have hyl : y.2.1.length ≤ 1000000000000 := by
        have h1 : (y.1, y.2.1) ∈ R.B := List.mem_of_getElem? hby
        have h2 : y.2.1.length ≤ pend R.B := by
          exact mem_pend h1
        have := HBB.out; omega
      have HYL := hid hyl
      obtain ⟨gb, eA, r0, r1, hb1⟩ := own_item HW.out.br rfl hy
      obtain ⟨z, yb, yv⟩ := y
      have hyv := HW.out.data _ (.inr (List.mem_of_getElem? hy))
      obtain ⟨YA, yc, hyv', hSY⟩ := own_sl8 hyv
      dsimp only at r0 r1 hyv' hSY hyl
      subst hyv' eA
      have HSY := hid hSY
      have j0 : (0 : Int) ≤ (j : Int) := by omega
      have j1 : (j : Int) < (nb : Int) := by omega
      have HC := hid (hkp.out.cell HQ0.out trivial)
      have hbb := World.block_lt_of_cell? _ _ HC.out
      have cw := blk_cell HW.out.cell
      have hpw := blk_lt HW.out.cell
      rw [HNL.out, HNB.out] at cw
      have hln : (by0 ++ pieces (R.B.take j) nm).length ≤ 1000000000000 := by
        have h1 := pieces_le (R.B.take j) nm
        have h2 := pend_take_le R.B j
        rw [List.length_append, HS0.out]
        have := HBB.out
        omega
      obtain ⟨cur, hcur⟩ : ∃ cur, by0 ++ pieces (R.B.take j) nm = cur := ⟨_, rfl⟩
      rw [hcur] at hown hln
      have HCU := hid hcur
      have HLN := hid hln
      obtain ⟨cl, hcl⟩ : ∃ cl, cur.length = cl := ⟨_, rfl⟩
      have HCL := hid hcl
      rw [hcl] at hown
      obtain ⟨CA, cc, rfl⟩ := own_shape hown.out
      clear hy hby hyv hSY hyl cp2 hcur hln hcl
      go_wp2_with fail
      have b1 := blk_new wr (.cells #[.string z, .slice YA yb.length yc] 96)
      have k1 := Kp.al wr (.cells #[.string z, .slice YA yb.length yc] 96)
      obtain ⟨W1, hW1⟩ : ∃ W1, W1 = wr.alloc (.cells #[.string z, .slice YA yb.length yc] 96) := ⟨_, rfl⟩
      rw [← hW1] at b1 k1 ⊢
      have c1 := blk_cell b1
      have c2 : W1.cell? ⟨lb, k0 * 2, none⟩ = some (.string nm) := k1.cell HC.out trivial
      have c3 := fun i => (blk_cell (k1.heap HW.out.cell trivial) i)
      rw [HNL.out, HNB.out] at c3
      have HB1 := hid b1; have HK1 := hid k1
      have z0 : (0 : Int) ≤ (k0 : Int) := by omega
      have z1 : (k0 : Int) < (nl : Int) := by omega
      clear hW1 b1 k1 cw r0 r1
      go_quiet (fail)
      have HK1q := hid (HK1.out.trans ((Kp.refl All W1).drewN nq))
      have b1q := blk_cell (show (W1.drewN nq).heap[wr.heap.size]? = some (.cells #[.string z, .slice YA yb.length yc] 96 (0, 0)) from HB1.out)
      obtain ⟨W2, hW2⟩ : ∃ W2, W2 = W1.drewN nq := ⟨_, rfl⟩
      rw [← hW2] at HK1q b1q ⊢
      clear hW2 c1 c2 c3
      by_cases he : z = nm
      · have hd : (z.toList == nm.toList) = true := by simp [he]
        rw [if_pos he] at HTK
        rw [hd]
        clear he hd
        go_wp2_with (at_builtin; go_loud (refine wpList_app el8 (own_kept hown.out HK1q.out (fun _ _ => trivial)) ((HSY.out.step HK1q.out).now) (u8s_one yb) ?_ (Nat.le_trans hkp.out.size HK1q.out.size) rfl _ _ rfl rfl rfl ?_); (have h1 := HLN.out; have h2 := HYL.out; have h3 := HCL.out; (try simp only at h2); omega); intro v' w4 hown4 hg4 hob4 hnil4; obtain ⟨A4, c4', rfl⟩ := own_shape hown4; have HOW4 := hid hown4; have HG4 := hid hg4; clear hown4 hg4 hob4 hnil4)
        go_wp2_with fail
        refine ⟨⟨j + 1, by omega, by go_num, ?_, ?_⟩, by simp [intOf]; omega⟩
        · rw [HTK.out, ← List.append_assoc, HCU.out, u8s_append, List.length_append, HCL.out]
          exact hid HOW4.out
        · exact hid ((hkp.out.trans HK1q.out).then (Kp.grown HG4.out) (fun i hi _ e => by have := (hown.out.lt i e.symm).1; omega))
      · have hd : ¬ z.toList = nm.toList := nm_ne he
        have hd2 : (z.toList == nm.toList) = false := by simp [hd]
        rw [if_neg he, List.append_nil] at HTK
        rw [hd2]
        clear he hd hd2
        go_wp2_with fail
        refine ⟨⟨j + 1, by omega, by go_num, ?_, hid (hkp.out.trans HK1q.out)⟩, by simp [intOf]; omega⟩
        rw [HTK.out, HCU.out, HCL.out]
        exact hid (own_kept hown.out HK1q.out fun _ _ => trivial)
    · have hb0 : decide ((j : Int) < (nb : Int)) = false := decide_eq_false (by omega)
      have : j = nb := by omega
      subst this
      rw [List.take_of_length_le (by rw [HB0.out, HNB.out]; exact Nat.le_refl _)] at hown
      go_wp2_with fail
      go_ret
      exact ⟨⟨_, rfl, hown.out⟩, hkp.out⟩
end Go.Proofs.Ytdlbccjimdghkaa

namespace Go.Proofs.Ytdlbccjimdghkaa
open Go.RowKit
set_option linter.unusedVariables false
set_option linter.unusedSimpArgs false
/-- It is not great. -/
structure Sm (R : DS) : Prop where
  f : R.F.length ≤ 1000000
  b : R.B.length ≤ 1000000
  s : ∀ x ∈ R.F, x.2.length + pend R.B ≤ 1000000000
theorem pend_take_s {B : List (Nm × By)} {k : Nat} {x : Nm × By} (h : B[k]? = some x) : pend (B.take (k + 1)) = pend (B.take k) + x.2.length := pend_take h
theorem elS : El Try.prog 24 9 1 16 (.string ⟨#[]⟩) := ⟨Try.underlying24, by kernel_rfl, rfl, by decide, by decide⟩
theorem sl_new1m {w : World} {m : Nat} (hm : m = w.heap.size) (a : Value) (t : TypeId) : Sl (some ⟨m, 0, none⟩) 1 1 1 [a] (w.alloc (.cells #[a] t)) := by
  subst hm
  refine ⟨rfl, Nat.le_refl _, fun _ => ⟨_, 0, rfl, fun j u hj => ?_⟩⟩
  rw [Nat.zero_add, blk_cell (blk_new w _)]
  simpa using hj
set_option maxRecDepth 100000 in
theorem qpend_any (Z : Nat → Prop) (p : Nat) (R : DS) (w : World) (h : RD Z p R w) (hb : R.B.length ≤ 1000000) (hs : pend R.B ≤ 1000000000000) :
    Calls Try.prog 61 #[.pointer (some ⟨p, 0, none⟩)] w fun e w' => e = .returned (.int .i64 (pend R.B)) ∧ Kp All w w' := by
  obtain ⟨lv, bv, LV, BV, h⟩ := h
  obtain ⟨BA, bc, rfl⟩ := own_shape h.br
  have H := hid h
  have HB0 := hid (show R.B.length = BV.length by rw [h.be, nms, List.length_map])
  have cp := blk_cell h.cell
  obtain ⟨nb, hnb⟩ : ∃ nb, BV.length = nb := ⟨_, rfl⟩
  have HNB := hid hnb
  rw [hnb] at cp
  have HPB := hid hs
  have hnbl : nb ≤ 1000000 := by have := HB0.out; omega
  clear h hnb hs hb
  go_enter Try.func61, Try.ntmps61
  go_wp2_with fail
  go_loopw [3, 11] (fun x i wr => ∃ j : Nat, j ≤ nb ∧ i = .int .i64 j ∧ x = .int .i64 (pend (R.B.take j)) ∧ Hid (Kp All w wr)) (fun _ i _ => nb - (intOf i).toNat)
  case atStart => exact ⟨0, Nat.zero_le _, rfl, rfl, Kp.refl _ _⟩
  case round =>
    obtain ⟨j, hj, rfl, rfl, hkp⟩ := hrel
    by_cases hlt : j < nb
    · have hb0 : decide ((j : Int) < (nb : Int)) = true := decide_eq_true (by omega)
      obtain ⟨y, hy⟩ : ∃ y, BV[j]? = some y := ⟨_, List.getElem?_eq_getElem (by rw [HNB.out]; exact hlt)⟩
      have hW := H.out.all hkp.out
      have hby : R.B[j]? = some (y.1, y.2.1) := by rw [H.out.be, nms_at, hy]; rfl
      have HTK := hid (pend_take hby)
      obtain ⟨gb, eA, r0, r1, hb1⟩ := own_item hW.br rfl hy
      obtain ⟨z, yb, yv⟩ := y
      have hyv := hW.data _ (.inr (List.mem_of_getElem? hy))
      obtain ⟨YA, yc, hyv', hSY⟩ := own_sl8 hyv
      dsimp only at r0 r1 hyv' hSY HTK
      subst hyv' eA
      have j0 : (0 : Int) ≤ (j : Int) := by omega
      have j1 : (j : Int) < (nb : Int) := by omega
      have hle := pend_take_le R.B (j + 1)
      have hle2 := HPB.out
      rw [HTK.out] at hle
      obtain ⟨pj, hpj⟩ : ∃ pj, pend (R.B.take j) = pj := ⟨_, rfl⟩
      obtain ⟨yl, hyl⟩ : ∃ yl, yb.length = yl := ⟨_, rfl⟩
      rw [hpj, hyl] at hle HTK
      rw [hyl] at r1
      rw [hpj]
      have hw2 : IntKind.i64.wrap ((pj : Int) + (yl : Int)) = ((pj + yl : Nat) : Int) := by rw [IntWalk.i64_in _ (by omega)]; omega
      clear hW hby hyv hSY hy hpj hyl
      go_wp2_with fail
      refine ⟨⟨j + 1, by omega, by go_num, by rw [HTK.out]; rfl, hkp.out.alloc _⟩, by simp [intOf]; omega⟩
    · have hb0 : decide ((j : Int) < (nb : Int)) = false := decide_eq_false (by omega)
      have : j = nb := by omega
      subst this
      have ht : R.B.take j = R.B := List.take_of_length_le (by rw [HB0.out, HNB.out]; exact Nat.le_refl _)
      rw [ht]
      go_wp2_with fail
      go_ret
      exact ⟨rfl, hkp.out⟩
theorem pieces_len (B : List (Nm × By)) (n : Nm) : (pieces B n).length = moreOf B n := by
  induction B with
  | nil => rfl
  | cons x B ih =>
    have e : pieces (x :: B) n = (if x.1 = n then x.2 else []) ++ pieces B n := by simp [pieces, List.flatMap_cons]
    rw [e, List.length_append, ih, moreOf]
    split <;> simp
theorem used_take {F B : List (Nm × By)} {k : Nat} {x : Nm × By} (h : F[k]? = some x) : usedOf (F.take (k + 1)) B = usedOf (F.take k) B + needs (x.2.length + moreOf B x.1) := by
  rw [usedOf, usedOf, List.take_add_one, h]
  simp
theorem used_take_le (F B : List (Nm × By)) (k : Nat) : usedOf (F.take k) B ≤ usedOf F B := by
  have : usedOf F B = usedOf (F.take k) B + usedOf (F.drop k) B := by
    rw [usedOf, usedOf, usedOf, ← List.sum_append, ← List.map_append, List.take_append_drop]
  omega
set_option maxRecDepth 100000 in
theorem qused_any (Z : Nat → Prop) (p : Nat) (R : DS) (w : World) (h : RD Z p R w) (hs : Sm R) :
    Calls Try.prog 63 #[.pointer (some ⟨p, 0, none⟩)] w fun e w' => e = .returned (.int .i64 (if R.off then 0 else (usedOf R.F R.B : Nat))) ∧ Kp All w w' := by
  have HR := hid h
  obtain ⟨lv, bv, LV, BV, h⟩ := h
  obtain ⟨LA, lc, rfl⟩ := own_shape h.fr
  have H := hid h
  have HL0 := hid (show R.F.length = LV.length by rw [h.fe, nms, List.length_map])
  have cp := blk_cell h.cell
  obtain ⟨nl, hnl⟩ : ∃ nl, LV.length = nl := ⟨_, rfl⟩
  have HNL := hid hnl
  rw [hnl] at cp
  have HSM := hid hs
  have hnll : nl ≤ 1000000 := by have := HL0.out; have := hs.f; omega
  obtain ⟨fo, hfo⟩ : ∃ fo, R.off = fo := ⟨_, rfl⟩
  have HFO := hid hfo
  rw [hfo]
  clear h hnl hs hfo
  go_enter Try.func63, Try.ntmps63
  go_wp2_with fail
  go_loopw [3, 10] (fun x i wr => ∃ j : Nat, j ≤ nl ∧ i = .int .i64 j ∧ x = .int .i64 (usedOf (R.F.take j) R.B) ∧ Hid (usedOf (R.F.take j) R.B ≤ j * 20000000) ∧ Hid (Kp All w wr)) (fun _ i _ => nl - (intOf i).toNat)
  case atStart => exact ⟨0, Nat.zero_le _, rfl, rfl, hid (by simp [usedOf]), Kp.refl _ _⟩
  case round =>
    obtain ⟨j, hj, rfl, rfl, hus, hkp⟩ := hrel
    by_cases hlt : j < nl
    · have hb0 : decide ((j : Int) < (nl : Int)) = true := decide_eq_true (by omega)
      obtain ⟨y, hy⟩ : ∃ y, R.F[j]? = some y := ⟨_, List.getElem?_eq_getElem (by rw [HL0.out, HNL.out]; exact hlt)⟩
      have hsz := HSM.out.s y (List.mem_of_getElem? hy)
      have HTK := hid (used_take (B := R.B) hy)
      have HSZ := hid hsz
      have HY := hid hy
      obtain ⟨pj, hpj⟩ : ∃ pj, usedOf (R.F.take j) R.B = pj := ⟨_, rfl⟩
      rw [hpj] at HTK hus ⊢
      clear hy hsz hpj
      go_wp2_with fail
      refine (qall_any Z p R j y _ (HR.out.all hkp.out) HY.out HSM.out.f HSM.out.b (by have := HSZ.out; omega)).mono ?_
      rintro e w1 ⟨⟨v1, rfl, h1⟩, k1⟩
      obtain ⟨A1, c1, rfl⟩ := own_shape h1
      have hlen : (y.2 ++ pieces R.B y.1).length = y.2.length + moreOf R.B y.1 := by rw [List.length_append, pieces_len]
      rw [hlen]
      have hmo : moreOf R.B y.1 ≤ pend R.B := mem_moreOf_le
      obtain ⟨sz, hsz⟩ : ∃ sz, y.2.length + moreOf R.B y.1 = sz := ⟨_, rfl⟩
      rw [hsz] at HTK ⊢
      have hszl : sz ≤ 1000000000 := by have := HSZ.out; omega
      have HK1 := hid (hkp.out.trans k1)
      clear h1 k1 hlen hmo hsz
      go_wp2_with fail
      refine (qneeds_any sz (by omega) _).mono ?_
      rintro e w2 ⟨rfl, rfl⟩
      obtain ⟨nd, hnd⟩ : ∃ nd, needs sz = nd := ⟨_, rfl⟩
      have hndl : nd ≤ 20000000 := by rw [← hnd, needs]; omega
      rw [hnd] at HTK ⊢
      have hpl : pj ≤ 1000000 * 20000000 := Nat.le_trans hus.out (Nat.mul_le_mul_right _ (by omega))
      have hw2 : IntKind.i64.wrap ((pj : Int) + (nd : Int)) = ((pj + nd : Nat) : Int) := by rw [IntWalk.i64_in _ (by omega)]; omega
      clear hnd
      go_wp2_with fail
      refine ⟨⟨j + 1, by omega, by go_num, by rw [HTK.out]; rfl, hid (by have := HTK.out; have := hus.out; omega), HK1⟩, by simp [intOf]; omega⟩
    · have hb0 : decide ((j : Int) < (nl : Int)) = false := decide_eq_false (by omega)
      have : j = nl := by omega
      subst this
      have ht : R.F.take j = R.F := List.take_of_length_le (by rw [HL0.out, HNL.out]; exact Nat.le_refl _)
      rw [ht]
      have cw := blk_cell (hkp.out.heap H.out.cell trivial)
      unfold rcs at cw
      rw [HFO.out] at cw
      cases fo with
      | true =>
        go_wp2_with fail
        go_ret
        exact ⟨rfl, hkp.out⟩
      | false =>
        go_wp2_with fail
        go_ret
        exact ⟨rfl, hkp.out⟩
set_option maxRecDepth 100000 in
theorem qlist_any (Z : Nat → Prop) (p : Nat) (R : DS) (w : World) (h : RD Z p R w) (hl : R.F.length ≤ 1000000) :
    Calls Try.prog 62 #[.pointer (some ⟨p, 0, none⟩)] w fun e w' => (∃ v, e = .returned v ∧ w'.ownsRow w.heap.size 9 1 v (if R.off then 0 else R.F.length) (if R.off then [] else (R.F.map fun x => Value.string x.1))) ∧ Kp All w w' := by
  obtain ⟨lv, bv, LV, BV, h⟩ := h
  obtain ⟨LA, lc, rfl⟩ := own_shape h.fr
  have H := hid h
  have HL0 := hid (show R.F.length = LV.length by rw [h.fe, nms, List.length_map])
  have cp := blk_cell h.cell
  have hpl := blk_lt h.cell
  obtain ⟨nl, hnl⟩ : ∃ nl, LV.length = nl := ⟨_, rfl⟩
  have HNL := hid hnl
  obtain ⟨fo, hfo⟩ : ∃ fo, R.off = fo := ⟨_, rfl⟩
  have HFO := hid hfo
  unfold rcs at cp
  rw [hnl, hfo] at cp
  rw [hfo]
  have hnll : nl ≤ 1000000 := by have := HL0.out; omega
  clear h hnl hl hfo
  go_enter Try.func62, Try.ntmps62
  go_wp2_with fail
  go_loopw [3, 11] (fun x i wr => ∃ j : Nat, j ≤ nl ∧ i = .int .i64 j ∧ Hid (wr.ownsRow w.heap.size 9 1 x (if fo then 0 else j) (if fo then [] else ((R.F.take j).map fun x => Value.string x.1))) ∧ Hid (Kp All w wr)) (fun _ i _ => nl - (intOf i).toNat)
  case atStart => exact ⟨0, Nat.zero_le _, rfl, hid (by cases fo <;> exact World.ownsRow_nil _ _ _ _), Kp.refl _ _⟩
  case round =>
    obtain ⟨j, hj, rfl, hown, hkp⟩ := hrel
    have hW := H.out.all hkp.out
    have cw := blk_cell hW.cell
    have hpw := blk_lt hW.cell
    unfold rcs at cw
    rw [HFO.out] at cw
    by_cases hlt : j < nl
    · have hb0 : decide ((j : Int) < (nl : Int)) = true := decide_eq_true (by omega)
      obtain ⟨y, hy⟩ : ∃ y, LV[j]? = some y := ⟨_, List.getElem?_eq_getElem (by rw [HNL.out]; exact hlt)⟩
      have hfy : R.F[j]? = some (y.1, y.2.1) := by rw [H.out.fe, nms_at, hy]; rfl
      have HTK := hid (show (R.F.take (j + 1)).map (fun x => Value.string x.1) = (R.F.take j).map (fun x => Value.string x.1) ++ [.string y.1] by rw [List.take_add_one, hfy]; simp)
      obtain ⟨lb, eA, r0, r1, hb1⟩ := own_item hW.fr rfl hy
      obtain ⟨z, yb, yv⟩ := y
      have hyv := hW.data _ (.inl (List.mem_of_getElem? hy))
      obtain ⟨YA, yc, hyv', hSY⟩ := own_sl8 hyv
      dsimp only at r0 r1 hyv' hSY HTK
      subst hyv' eA
      have j0 : (0 : Int) ≤ (j : Int) := by omega
      have j1 : (j : Int) < (nl : Int) := by omega
      clear hW hfy hyv hSY hy cp
      cases fo with
      | true =>
        go_wp2_with fail
        exact ⟨⟨j + 1, by omega, by go_num, hid (own_kept hown.out (Kp.al _ _) fun _ _ => trivial), hkp.out.alloc _⟩, by simp [intOf]; omega⟩
      | false =>
        simp only [Bool.false_eq_true, if_false] at hown ⊢
        obtain ⟨RA, rc, rfl⟩ := own_shape hown.out
        go_wp2_with (at_builtin; go_loud (refine wpList_app elS ((hown.out.alloc _).alloc _) (sl_new1m (m := wr.heap.size + 1) (by simp) (.string z) _) (fun u hu => by rw [List.mem_singleton.1 hu]; rfl) ?_ (Nat.le_trans hkp.out.size (by simp; omega)) rfl _ _ rfl rfl rfl ?_); omega; intro v' w4 hown4 hg4 hob4 hnil4; obtain ⟨A4, c4', rfl⟩ := own_shape hown4; have HOW4 := hid hown4; have HG4 := hid hg4; clear hown4 hg4 hob4 hnil4)
        go_wp2_with fail
        refine ⟨⟨j + 1, by omega, by go_num, ?_, ?_⟩, by simp [intOf]; omega⟩
        · rw [HTK.out]
          exact hid HOW4.out
        · exact hid (((hkp.out.alloc _).alloc _).then (Kp.grown HG4.out) (fun i hi _ e => by have := (hown.out.lt i e.symm).1; omega))
    · have hb0 : decide ((j : Int) < (nl : Int)) = false := decide_eq_false (by omega)
      have : j = nl := by omega
      subst this
      have ht : R.F.take j = R.F := List.take_of_length_le (by rw [HL0.out, HNL.out]; exact Nat.le_refl _)
      rw [ht] at hown
      have hj2 : j = R.F.length := by rw [HL0.out, HNL.out]
      have HJ2 := hid hj2
      clear hj2 ht
      cases fo with
      | true =>
        go_wp2_with fail
        go_ret
        exact ⟨⟨_, rfl, hown.out⟩, hkp.out⟩
      | false =>
        go_wp2_with fail
        go_ret
        exact ⟨⟨_, rfl, by rw [← HJ2.out]; exact hown.out⟩, hkp.out⟩
end Go.Proofs.Ytdlbccjimdghkaa

namespace Go.Proofs.Ytdlbccjimdghkaa
open Go.RowKit
set_option linter.unusedVariables false
set_option linter.unusedSimpArgs false
/-- The document's disk behind a step; what was no block of it is none, and is kept. -/
def Rx (Z : Nat → Prop) (p : Nat) (R' : DS) (w w' : World) : Prop := ∃ Z', RD Z' p R' w' ∧ (∀ b, b < w.heap.size → Z' b → Z b) ∧ Kp (fun b => ¬ Z b) w w'
theorem Rx.refl {Z : Nat → Prop} {p : Nat} {R : DS} {w w' : World} (h : RD Z p R w) (k : Kp All w w') : Rx Z p R w w' := ⟨Z, h.all k, fun _ _ h => h, k.all⟩
theorem Rx.trans {Z : Nat → Prop} {p : Nat} {R2 : DS} {w w1 w2 : World} (h : ∃ Z1, (∀ b, b < w.heap.size → Z1 b → Z b) ∧ Kp (fun b => ¬ Z b) w w1 ∧ Rx Z1 p R2 w1 w2) : Rx Z p R2 w w2 := by
  obtain ⟨Z1, h1, k1, Z2, h2, h3, k2⟩ := h
  exact ⟨Z2, h2, fun b hb hz => h1 b hb (h3 b (Nat.lt_of_lt_of_le hb k1.size) hz), k1.then k2 fun b hb hn hz => hn (h1 b hb hz)⟩
theorem Rx.pre {Z : Nat → Prop} {p : Nat} {R2 : DS} {w w1 w2 : World} (k : Kp All w w1) (h : Rx Z p R2 w1 w2) : Rx Z p R2 w w2 := Rx.trans ⟨Z, fun _ _ h => h, k.all, h⟩
theorem Rx.post {Z : Nat → Prop} {p : Nat} {R2 : DS} {w w1 w2 : World} (h : Rx Z p R2 w w1) (k : Kp All w1 w2) : Rx Z p R2 w w2 := by
  obtain ⟨Z', h1, h2, h3⟩ := h
  exact ⟨Z', h1.all k, h2, h3.then k fun _ _ _ => trivial⟩
/-- Names once, writes of files. -/
structure Gd (R : DS) : Prop extends Sm R where
  nd : (R.F.map (·.1)).Nodup
  nm : ∀ x ∈ R.B, x.1 ∈ R.F.map (·.1)
theorem ncs_set {V : List Itm} {k : Nat} {x : Itm} (h : V[k]? = some x) (b : By) (v : Value) : (ncs V).set (k * 2 + 1) v = ncs (V.set k (x.1, b, v)) := by
  induction V generalizing k with
  | nil => simp at h
  | cons q V ih =>
    cases k with
    | zero => simp at h; subst h; rfl
    | succ k =>
      have := ih (k := k) (by simpa using h)
      have l2 : (nc2 q).length = 2 := rfl
      rw [List.set_cons_succ, ncs_cons, ncs_cons, ← this, List.set_append_right _ _ (by rw [l2]; omega), l2, show (k + 1) * 2 + 1 - 2 = k * 2 + 1 from by omega]
theorem addTo_set {F : List (Nm × By)} {k : Nat} {x : Nm × By} (hn : (F.map (·.1)).Nodup) (h : F[k]? = some x) (b : By) : addTo F x.1 b = F.set k (x.1, x.2 ++ b) := by
  induction F generalizing k with
  | nil => simp at h
  | cons q F ih =>
    simp only [List.map_cons, List.nodup_cons] at hn
    cases k with
    | zero =>
      simp at h; subst h
      rw [List.set_cons_zero, addTo, List.map_cons, if_pos rfl]
      congr 1
      rw [List.map_congr_left (g := id), List.map_id]
      intro u hu
      rw [if_neg (fun e : u.1 = q.1 => hn.1 (e ▸ List.mem_map.2 ⟨u, hu, rfl⟩))]; rfl
    | succ k =>
      have h' : F[k]? = some x := by simpa using h
      have hne : q.1 ≠ x.1 := fun e => hn.1 (e ▸ List.mem_map.2 ⟨x, List.mem_of_getElem? h', rfl⟩)
      rw [List.set_cons_succ, ← ih hn.2 h', addTo, List.map_cons, if_neg hne]
      rfl
theorem findN_mem {F : List (Nm × By)} {n : Nm} (h : n ∈ F.map (·.1)) : ∃ k s, findN F n = (k : Nat) ∧ F[k]? = some (n, s) := by
  cases hh : F.findIdx? (fun x => decide (x.1 = n)) with
  | none =>
    rw [List.findIdx?_eq_none_iff] at hh
    obtain ⟨x, hx, e⟩ := List.mem_map.1 h
    have := hh x hx
    simp [e] at this
  | some k =>
    have h2 := hh
    rw [List.findIdx?_eq_some_iff_getElem] at hh
    obtain ⟨hk, h1, _⟩ := hh
    have e : F[k].1 = n := by simpa using h1
    exact ⟨k, F[k].2, by rw [findN, h2], by rw [List.getElem?_eq_getElem hk, ← e]⟩
theorem findN_not {F : List (Nm × By)} {n : Nm} (h : n ∉ F.map (·.1)) : findN F n = -1 := findN_none fun j hj y hy e => h (e ▸ List.mem_map.2 ⟨y, List.mem_of_getElem? hy, rfl⟩)
/-- A store of new bytes into the k-th file. -/
theorem RD0.stored {Z : Nat → Prop} {p : Nat} {R : DS} {bv : Value} {LV BV : List Itm} {w w' : World} {lb n lc : Nat} (h : RD0 Z p R (.slice (some ⟨lb, 0, none⟩) n lc) bv LV BV w) (hn : n = LV.length) (hd : (R.F.map (·.1)).Nodup) {k : Nat} {x : Itm} (hx : LV[k]? = some x) (b : By) (v : Value)
    (k1 : Kp All w w') (hv : w'.ownsRow w.heap.size 5 1 v b.length (u8s b)) :
    Rx Z p { R with F := R.F.set k (x.1, b) } w (w'.setCell ⟨lb, k * 2 + 1, none⟩ v) ∧ ∃ Z', (∀ i, i < w.heap.size → Z' i → Z i) ∧ RD0 Z' p { R with F := R.F.set k (x.1, b) } (.slice (some ⟨lb, 0, none⟩) n lc) bv (LV.set k (x.1, b, v)) BV (w'.setCell ⟨lb, k * 2 + 1, none⟩ v) ∧ Kp (fun i => ¬ Z i) w (w'.setCell ⟨lb, k * 2 + 1, none⟩ v) := by
  subst hn
  have h' := h.all k1
  have hrow := h'.fr
  have hlbZ : Z lb := h.zl lb rfl
  have hlb : lb < w.heap.size := h.lt _ hlbZ
  have kS : Kp (fun i => i ≠ lb) w' (w'.setCell ⟨lb, k * 2 + 1, none⟩ v) := (Kp.refl _ _).setOut (fun h => h rfl) _
  have hblk : ∃ cur, w'.heap[lb]? = some (.cells cur 94 (0, 0)) := by
    rcases hrow.2 with ⟨e, _⟩ | ⟨g, cap, cur, e, _, hg, _⟩
    · cases e
    · injection e with e _ _; injection e with e; injection e with e _ _
      subst e; exact ⟨_, hg⟩
  obtain ⟨cur, hblk⟩ := hblk
  have tne : ∀ {i : Nat} {cs : Array Value} {t : TypeId} {fz : Nat × Nat}, w'.heap[i]? = some (.cells cs t fz) → t ≠ 94 → i ≠ lb := by
    intro i cs t fz hi ht e
    subst e
    rw [hblk] at hi
    injection hi with hi
    injection hi with _ hi
    exact ht hi.symm
  have rowne : ∀ {e sz n : Nat} {u : Value} {xs : List Value}, w'.ownsRow 0 e sz u n xs → e ≠ 94 → ∀ i, u.ownBlock = some i → i ≠ lb := by
    intro e sz n u xs hu he i hi
    rcases hu.2 with ⟨rfl, _⟩ | ⟨g, cap, cur', rfl, _, hg, _⟩
    · cases hi
    · injection hi with hi; subst hi
      exact tne hg he
  have hv0 : w'.ownsRow 0 5 1 v b.length (u8s b) := World.ownsRow.mono hv (Nat.zero_le _)
  have hfe : R.F.set k (x.1, b) = nms (LV.set k (x.1, b, v)) := by rw [h.fe, nms, nms, List.map_set]
  have memset : ∀ y, y ∈ LV.set k (x.1, b, v) → y ∈ LV ∨ y = (x.1, b, v) := fun y hy => List.mem_or_eq_of_mem_set hy
  have hR : RD0 (fun i => Z i ∨ v.ownBlock = some i) p { R with F := R.F.set k (x.1, b) } (.slice (some ⟨lb, 0, none⟩) LV.length lc) bv (LV.set k (x.1, b, v)) BV (w'.setCell ⟨lb, k * 2 + 1, none⟩ v) := by
    refine ⟨kS.heap h'.cell (tne h'.cell (by decide)), hfe, h.be, ?_, own_kept h'.br kS (rowne h'.br (by decide)), ?_, .inl h.zp, fun i hi => .inl (h.zl i hi), fun i hi => .inl (h.zb i hi), ?_, ?_⟩
    · rw [List.length_set, ← ncs_set hx]
      exact (hrow.stored _ _).1
    · rintro y (hy | hy)
      · rcases memset y hy with hy | rfl
        · exact own_kept (h'.data y (.inl hy)) kS (rowne (h'.data y (.inl hy)) (by decide))
        · exact own_kept hv0 kS (rowne hv0 (by decide))
      · exact own_kept (h'.data y (.inr hy)) kS (rowne (h'.data y (.inr hy)) (by decide))
    · rintro y (hy | hy) i hi
      · rcases memset y hy with hy | rfl
        · exact .inl (h.zd y (.inl hy) i hi)
        · exact .inr hi
      · exact .inl (h.zd y (.inr hy) i hi)
    · rintro i (hi | hi)
      · have := h.lt i hi; have := k1.size; have := kS.size; omega
      · have := (hv.lt i hi).2; have := kS.size; omega
  have hZ : ∀ i, i < w.heap.size → (Z i ∨ v.ownBlock = some i) → Z i := by
    rintro i hi (h | h)
    · exact h
    · have := (hv.lt i h).1; omega
  have hK : Kp (fun i => ¬ Z i) w (w'.setCell ⟨lb, k * 2 + 1, none⟩ v) := k1.all.then kS fun i _ hn e => hn (e ▸ hlbZ)
  exact ⟨⟨_, ⟨_, _, _, _, hR⟩, hZ, hK⟩, _, hZ, hR, hK⟩
end Go.Proofs.Ytdlbccjimdghkaa
