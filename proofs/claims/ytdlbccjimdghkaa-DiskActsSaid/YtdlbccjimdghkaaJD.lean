/- Both disks alike: walked once. No condition but that the disks lie and are alike. -/
import Derived.Test.YtdlbccjimdghkaaJC
namespace Go.Proofs.Ytdlbccjimdghkaa
open Go.RowKit
set_option linter.unusedVariables false
set_option linter.unusedSimpArgs false
theorem goodB_size {s : Nm} (h : goodB s = true) : s.size ≤ 24 := by
  unfold goodB at h
  simp only [Bool.and_eq_true, decide_eq_true_eq] at h
  exact h.1.1.1.2
theorem nm_eq {s t : Nm} (h : s.data.toList = t.data.toList) : s = t := by
  cases s; cases t
  congr 1
  exact Array.toList_inj.1 h
theorem Bo.keys {N : Nat} {D R : DS} (h : Bo N D R) {ks : List Nm} (hp : ks.Perm (D.F.map (·.1))) (hs : ks.Pairwise (fun a b : Nm => a.data.toList ≤ b.data.toList)) : ks = R.F.map (·.1) := by
  refine List.Perm.eq_of_pairwise (le := fun a b : Nm => a.data.toList ≤ b.data.toList) (fun a b _ _ h1 h2 => nm_eq (List.le_antisymm h1 h2)) hs ?_ (hp.trans (h.a.f.map _))
  rw [List.pairwise_map]
  exact h.o.so
def names (R : DS) : List Nm := if R.off then [] else R.F.map (·.1)
def RowL (w : World) (ks : List Nm) (ln : Nat) (e : Ending) (w' : World) : Prop := ∃ A c, e = .returned (.slice A ln c) ∧ Foot All (Sl A ln c 1 (ks.map Value.string)) w' ∧ Kp All w w'
theorem RowL.of {w w' : World} {base ln : Nat} {ks : List Nm} {v : Value} (hl : ks.length = ln) (h : w'.ownsRow base 9 1 v ks.length (ks.map Value.string)) (k : Kp All w w') : RowL w ks ln (.returned v) w' := by
  subst hl
  obtain ⟨A, c, rfl⟩ := own_shape h
  exact ⟨A, c, rfl, own_foot h, k⟩
theorem dlist_all {w0 w : World} {p q N : Nat} {ro : Nat → Role} {Z : Nat → Prop} {D R : DS} (h : Two w0 p q ro Z D R w) (hb : Bo N D R) (hN : N ≤ 100000) {ln : Nat} (hl : (names R).length = ln) :
    Calls Try.prog 25 #[.pointer (some ⟨p, 0, none⟩)] w (RowL w (names R) ln) := by
  cases hof : R.off with
  | true =>
    refine (list_off p ro D (hb.a.of.trans hof) w h.d).mono ?_
    rintro e w' ⟨rfl, rfl⟩
    have : names R = [] := by rw [names, hof]; rfl
    rw [this] at hl ⊢
    exact RowL.of (base := 0) hl (World.ownsRow_nil _ _ _ _) (Kp.refl _ _)
  | false =>
    refine (list_any p ro D (hb.a.of.trans hof) (fun x hx => ?_) ?_ w h.d).mono ?_
    · have := goodB_size (hb.o.go x (hb.a.f.mem_iff.1 hx)); omega
    · rw [hb.a.f.length_eq]; have := hb.b.nf; omega
    · rintro e w' ⟨v, ks, rfl, hp, hs, hrow, hk⟩
      have : names R = ks := by rw [names, hof, hb.keys hp hs]; rfl
      rw [this] at hl ⊢
      exact RowL.of hl hrow hk
theorem qlist_all {w0 w : World} {p q N : Nat} {ro : Nat → Role} {Z : Nat → Prop} {D R : DS} (h : Two w0 p q ro Z D R w) (hb : Bo N D R) (hN : N ≤ 100000) {ln : Nat} (hl : (names R).length = ln) :
    Calls Try.prog 62 #[.pointer (some ⟨q, 0, none⟩)] w (RowL w (names R) ln) := by
  refine (qlist_any Z q R w h.r (by have := hb.b.nf; omega)).mono ?_
  rintro e w' ⟨⟨v, rfl, hrow⟩, hk⟩
  refine RowL.of (base := w.heap.size) hl ?_ hk
  unfold names
  split
  · next hf =>
    rw [if_pos hf, if_pos hf] at hrow
    exact hrow
  · next hf =>
    rw [if_neg hf, if_neg hf] at hrow
    rw [List.length_map, List.map_map]
    exact hrow
theorem own_rowfoot {w w' : World} {base e n c : Nat} {A : Option Addr} {xs : List Value} (h : w.ownsRow base e 1 (.slice A n c) n xs) (k : Kp All w w') : Foot All (Sl A n c 1 xs) w' := (own_foot h).step k
theorem don_all {w : World} {p : Nat} {ro : Nat → Role} {D : DS} (h : Dk w p ro D) : Calls Try.prog 22 #[.pointer (some ⟨p, 0, none⟩)] w fun e w' => e = .returned (.bool (!D.off)) ∧ w = w' := by
  obtain ⟨m, fp, bv, BV, h⟩ := h
  exact on_any p m D _ bv w h.cell
theorem qcells {w : World} {q : Nat} {R : DS} {lv bv : Value} {fo : Bool} (h : w.heap[q]? = some (.cells (rcs R lv bv) 77 (0, 0))) (hf : R.off = fo) : ∀ i, w.cell? ⟨q, i, none⟩ = (#[.int .i64 R.blocks, lv, bv, .bool fo, .int .i64 R.ops, .int .i64 R.fails, .int .i64 R.keep] : Array Value)[i]? := by
  subst hf
  exact blk_cell h
set_option maxRecDepth 100000 in
set_option maxHeartbeats 4000000 in
theorem alike_any (w0 w : World) (p q N : Nat) (ro : Nat → Role) (Z : Nat → Prop) (D R : DS) (h : Two w0 p q ro Z D R w) (hb : Bo N D R) (hN : N ≤ 100000) :
    Calls Try.prog 31 #[.pointer (some ⟨p, 0, none⟩), .pointer (some ⟨q, 0, none⟩)] w fun e w' => e = .returned (.bool true) ∧ Two w0 p q ro Z D R w' := by
  have H := hid h; have HB := hid hb
  obtain ⟨lv, bv, LV, BV, h0⟩ := h.r
  have c0 := blk_cell h0.cell
  unfold rcs at c0
  have HC := hid h0.cell
  obtain ⟨fo, hfo⟩ : ∃ fo, R.off = fo := ⟨_, rfl⟩
  have HFO := hid hfo
  rw [hfo] at c0
  clear h hb h0 hfo
  go_enter Try.func31, Try.ntmps31
  go_wp2_with fail
  refine (qpend_any Z q R _ H.out.r (by have := HB.out.b.nb; omega) (by have := HB.out.b.sz; omega)).mono ?_
  rintro e w1 ⟨rfl, hk1⟩
  have H1 := hid (H.out.all hk1)
  have hc1 := hk1.heap HC.out trivial
  have c1 := blk_cell hc1
  unfold rcs at c1
  rw [HFO.out] at c1
  have HC1 := hid hc1
  have HK1 := hid hk1
  clear hk1 hc1 c0
  have H1 := hid (H1.out.all ((Kp.refl All w1).drew))
  obtain ⟨ln, hln⟩ : ∃ ln, (names R).length = ln := ⟨_, rfl⟩
  have hln9 : ln ≤ 1000000 := by
    have := HB.out.b.nf
    rw [← hln, names]
    split
    · simp
    · rw [List.length_map]; omega
  have HLN := hid hln
  obtain ⟨u, hu⟩ : ∃ u, (if R.off = true then 0 else usedOf R.F R.B) = u := ⟨_, rfl⟩
  have HU2 := hid (show (if R.off = true then (0 : Int) else ((usedOf R.F R.B : Nat) : Int)) = (u : Int) by rw [← hu]; split <;> rfl)
  have HUD := hid (show (if D.off = true then 0 else usedOf D.F D.B) = u by rw [HB.out.a.of, HB.out.a.used]; exact hu)
  clear hln hu
  cases fo with
  | true =>
    have HP := hid (show (if D.off = true then 0 else pend D.B) = 0 by rw [HB.out.a.of, HFO.out]; rfl)
    go_wp2_with fail
    go_region_held3 (fun w' => ∀ i, w'.cell? ⟨q, i, none⟩ = (#[.int .i64 R.blocks, lv, bv, .bool true, .int .i64 R.ops, .int .i64 R.fails, .int .i64 R.keep] : Array Value)[i]?) (first | exact qcells HC6.out HFO.out | exact qcells HC5.out HFO.out | exact qcells HC4.out HFO.out | exact qcells HC3.out HFO.out | exact qcells HC2.out HFO.out | assumption) (first | (go_at_call 22; have m7 := M7.out; clear m7; refine (don_all H6.out.d).mono ?_; rw [HB.out.a.of, HFO.out]; rintro e w7 ⟨rfl, rfl⟩) | (go_at_call 23; have m6 := H6.out; clear m6; refine (ops_any p ro D _ H6.out.d).mono ?_; rw [HB.out.a.op]; rintro e w7 ⟨rfl, rfl⟩; have M7 := hid True.intro) | (go_at_call 16; have m5 := H5.out; clear m5; refine (pend_any p ro D _ H5.out.d).mono ?_; rw [HP.out]; rintro e w6 ⟨rfl, hk6⟩; have H6 := hid (H5.out.all hk6); have HC6 := hid (hk6.heap HC5.out trivial); clear hk6) | (go_at_call 63; have m4 := M4.out; clear m4; refine (qused_any Z q R _ H4.out.r (HB.out.go hN).toGd.toSm).mono ?_; rw [HU2.out]; rintro e w5 ⟨rfl, hk5⟩; have H5 := hid (H4.out.all hk5); have HC5 := hid (hk5.heap HC4.out trivial); clear hk5) | (go_at_call 26; have m4 := H4.out; clear m4; refine (used_any p ro D _ H4.out.d).mono ?_; rw [HUD.out]; rintro e w4' ⟨rfl, rfl⟩; have M4 := hid True.intro) | (go_at_call 24; have m3 := H3.out; clear m3; refine (texts_any A2 A3 ln c2 ln c3 (names R) (names R) true _ HR2.out HR3.out (by omega) (by simp)).mono ?_; rintro e w4 ⟨rfl, hk4⟩; have H4 := hid (H3.out.all hk4); have HC4 := hid (hk4.heap HC3.out trivial); clear hk4) | (go_at_call 62; have m2 := H2.out; clear m2; refine (qlist_all H2.out HB.out hN HLN.out).mono ?_; rintro e w3 ⟨A3, c3, rfl, hr3, hk3⟩; have HR2 := hid (HR2'.out.step hk3); have HR3 := hid hr3; have H3 := hid (H2.out.all hk3); have HC3 := hid (hk3.heap HC2.out trivial); clear hr3 hk3) | (go_at_call 25; refine (dlist_all H1.out HB.out hN HLN.out).mono ?_; rintro e w2 ⟨A2, c2, rfl, hr2, hk2⟩; have HR2' := hid hr2; have H2 := hid (H1.out.all hk2); have HC2 := hid (hk2.heap HC1.out trivial); clear hr2 hk2))
    go_wp2_with fail
    go_ret
    exact ⟨rfl, H6.out⟩
  | false =>
    have HP := hid (show (if D.off = true then 0 else pend D.B) = pend R.B by rw [HB.out.a.of, HFO.out, HB.out.a.b]; rfl)
    go_wp2_with fail
    go_region_held3 (fun w' => ∀ i, w'.cell? ⟨q, i, none⟩ = (#[.int .i64 R.blocks, lv, bv, .bool false, .int .i64 R.ops, .int .i64 R.fails, .int .i64 R.keep] : Array Value)[i]?) (first | exact qcells HC6.out HFO.out | exact qcells HC5.out HFO.out | exact qcells HC4.out HFO.out | exact qcells HC3.out HFO.out | exact qcells HC2.out HFO.out | assumption) (first | (go_at_call 22; have m7 := M7.out; clear m7; refine (don_all H6.out.d).mono ?_; rw [HB.out.a.of, HFO.out]; rintro e w7 ⟨rfl, rfl⟩) | (go_at_call 23; have m6 := H6.out; clear m6; refine (ops_any p ro D _ H6.out.d).mono ?_; rw [HB.out.a.op]; rintro e w7 ⟨rfl, rfl⟩; have M7 := hid True.intro) | (go_at_call 16; have m5 := H5.out; clear m5; refine (pend_any p ro D _ H5.out.d).mono ?_; rw [HP.out]; rintro e w6 ⟨rfl, hk6⟩; have H6 := hid (H5.out.all hk6); have HC6 := hid (hk6.heap HC5.out trivial); clear hk6) | (go_at_call 63; have m4 := M4.out; clear m4; refine (qused_any Z q R _ H4.out.r (HB.out.go hN).toGd.toSm).mono ?_; rw [HU2.out]; rintro e w5 ⟨rfl, hk5⟩; have H5 := hid (H4.out.all hk5); have HC5 := hid (hk5.heap HC4.out trivial); clear hk5) | (go_at_call 26; have m4 := H4.out; clear m4; refine (used_any p ro D _ H4.out.d).mono ?_; rw [HUD.out]; rintro e w4' ⟨rfl, rfl⟩; have M4 := hid True.intro) | (go_at_call 24; have m3 := H3.out; clear m3; refine (texts_any A2 A3 ln c2 ln c3 (names R) (names R) true _ HR2.out HR3.out (by omega) (by simp)).mono ?_; rintro e w4 ⟨rfl, hk4⟩; have H4 := hid (H3.out.all hk4); have HC4 := hid (hk4.heap HC3.out trivial); clear hk4) | (go_at_call 62; have m2 := H2.out; clear m2; refine (qlist_all H2.out HB.out hN HLN.out).mono ?_; rintro e w3 ⟨A3, c3, rfl, hr3, hk3⟩; have HR2 := hid (HR2'.out.step hk3); have HR3 := hid hr3; have H3 := hid (H2.out.all hk3); have HC3 := hid (hk3.heap HC2.out trivial); clear hr3 hk3) | (go_at_call 25; refine (dlist_all H1.out HB.out hN HLN.out).mono ?_; rintro e w2 ⟨A2, c2, rfl, hr2, hk2⟩; have HR2' := hid hr2; have H2 := hid (H1.out.all hk2); have HC2 := hid (hk2.heap HC1.out trivial); clear hr2 hk2))
    go_wp2_with fail
    go_ret
    exact ⟨rfl, H6.out⟩
end Go.Proofs.Ytdlbccjimdghkaa
