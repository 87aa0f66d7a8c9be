/- The document's table in memory: Done, walked once. No condition but that it lies as its sessions' cells in a row of its own, and is not great. -/
import Derived.Test.YtkipijdbkkcioaaCN
import Derived.Laws.OwnMore
namespace Go.Proofs.Ytkipijdbkkcioaa
open Go.RowKit
set_option linter.unusedVariables false
set_option linter.unusedSimpArgs false
theorem ssc_cons (x : Int × Raw) (L : List (Int × Raw)) : ssc (x :: L) = sc7 x ++ ssc L := by rw [ssc, List.flatMap_cons]; rfl
theorem ssc_len (L : List (Int × Raw)) : (ssc L).length = L.length * 7 := by
  induction L with
  | nil => rfl
  | cons x L ih =>
    have l7 : (sc7 x).length = 7 := rfl
    rw [ssc_cons, List.length_append, ih, l7, List.length_cons]
    omega
theorem ssc_app (L K : List (Int × Raw)) : ssc (L ++ K) = ssc L ++ ssc K := by simp [ssc]
/-- The document's table lies in block p, its sessions L in a row of its own. -/
structure DT (B p : Nat) (L : List (Int × Raw)) (v : Value) (w : World) : Prop where
  cell : w.heap[p]? = some (.cells #[v] 45 (0, 0))
  own : w.ownsRow B 51 7 v L.length (ssc L)
theorem DT.foot {B p : Nat} {L : List (Int × Raw)} {v : Value} {w : World} (h : DT B p L v w) : ∃ A c, v = .slice A L.length c ∧ Foot All (Sl A L.length c 7 (ssc L)) w := by
  obtain ⟨A, c, rfl, hf⟩ := sl_own h.own
  exact ⟨A, c, rfl, hf.mono fun _ _ _ => trivial⟩
theorem DT.ne {B p : Nat} {L : List (Int × Raw)} {v : Value} {w : World} (h : DT B p L v w) : v.ownBlock ≠ some p := by
  intro e
  rcases h.own.2 with ⟨rfl, _⟩ | ⟨g, cap, cur, rfl, hb, hg, _⟩
  · cases e
  · injection e with e
    subst e
    have h1 := h.cell
    simp only at h1
    rw [hg] at h1
    injection h1 with h1
    injection h1 with _ h1
    cases h1
theorem DT.kept {S : Nat → Prop} {B p : Nat} {L : List (Int × Raw)} {v : Value} {w w' : World} (h : DT B p L v w) (k : Kp S w w') (hp : S p) (hs : ∀ b, v.ownBlock = some b → S b) : DT B p L v w' := ⟨k.heap h.cell hp, own_kept h.own k hs⟩
theorem DT.all {B p : Nat} {L : List (Int × Raw)} {v : Value} {w w' : World} (h : DT B p L v w) (k : Kp All w w') : DT B p L v w' := h.kept k trivial fun _ _ => trivial
/-- What a turn of the document's table leaves: all blocks but its own. -/
def Docd (B p : Nat) (v : Value) (err : Int) (L : List (Int × Raw)) (w : World) (e : Ending) (w' : World) : Prop :=
  e = .returned (.int .i64 err) ∧ ∃ v', DT B p L v' w' ∧ Kp (fun b => b ≠ p ∧ some b ≠ v.ownBlock) w w' ∧ (v' = v ∨ ∀ b, v'.ownBlock = some b → w.heap.size ≤ b)
def rdoneErr (L : List (Int × Raw)) (id seq : Int) : Int := match findI L id with
  | .negSucc _ => 14
  | .ofNat k => match L[k]? with
    | some x => if seq ≤ x.2.seq then 15 else 0
    | none => 14
def rdoneL (L : List (Int × Raw)) (id seq : Int) (y : Raw) : List (Int × Raw) := if rdoneErr L id seq = 0 then L.set (findI L id).toNat (id, y) else L
theorem set7 (q : Int × Raw) (M : List Value) (i : Nat) (u : Value) : (sc7 q ++ M).set (7 + i) u = sc7 q ++ M.set i u := by
  have l7 : (sc7 q).length = 7 := rfl
  rw [List.set_append_right _ _ (by rw [l7]; omega), l7, Nat.add_sub_cancel_left]
theorem set_sc {L : List (Int × Raw)} {k : Nat} {x : Int × Raw} (hx : L[k]? = some x) (y : Raw) : ((((((ssc L).set (k * 7 + 1) (.int .i64 y.seq)).set (k * 7 + 2) (.int .i64 y.r.err)).set (k * 7 + 3) (.bool y.r.found)).set (k * 7 + 4) (.string y.r.val)).set (k * 7 + 5) (.int .i64 y.r.sess)).set (k * 7 + 6) (.slice y.A y.r.pairs.length y.c) = ssc (L.set k (x.1, y)) := by
  induction L generalizing k with
  | nil => simp at hx
  | cons q L ih =>
    cases k with
    | zero =>
      simp at hx; subst hx
      rw [List.set_cons_zero, ssc_cons, ssc_cons]
      rfl
    | succ k =>
      have h := ih (k := k) (by simpa using hx)
      rw [List.set_cons_succ, ssc_cons, ssc_cons, ← h]
      have e : ∀ i, (k + 1) * 7 + i = 7 + (k * 7 + i) := fun i => by omega
      simp only [e, set7]
theorem out6 {S : Nat → Prop} {a w : World} (h : Kp S a w) {b i1 i2 i3 i4 i5 i6 : Nat} (hp : ¬ S b) {u1 u2 u3 u4 u5 u6 : Value} : Kp S a ((((((w.setCell ⟨b, i1, none⟩ u1).setCell ⟨b, i2, none⟩ u2).setCell ⟨b, i3, none⟩ u3).setCell ⟨b, i4, none⟩ u4).setCell ⟨b, i5, none⟩ u5).setCell ⟨b, i6, none⟩ u6).drew :=
  ((((((h.setOut hp u1).setOut hp u2).setOut hp u3).setOut hp u4).setOut hp u5).setOut hp u6).drew
theorem far6 {w : World} {q : Nat} {o : Obj} (h : w.heap[q]? = some o) {b i1 i2 i3 i4 i5 i6 : Nat} (hne : q ≠ b) {u1 u2 u3 u4 u5 u6 : Value} : ((((((w.setCell ⟨b, i1, none⟩ u1).setCell ⟨b, i2, none⟩ u2).setCell ⟨b, i3, none⟩ u3).setCell ⟨b, i4, none⟩ u4).setCell ⟨b, i5, none⟩ u5).setCell ⟨b, i6, none⟩ u6).drew.heap[q]? = some o :=
  (out6 (S := fun k => k ≠ b) (Kp.refl _ w) (fun h => h rfl)).heap h hne
theorem own1 {w : World} {base e sz g n cap : Nat} {xs : List Value} (h : w.ownsRow base e sz (.slice (some ⟨g, 0, none⟩) n cap) n xs) (j : Nat) (u : Value) : (w.setCell ⟨g, j, none⟩ u).ownsRow base e sz (.slice (some ⟨g, 0, none⟩) n cap) n (xs.set j u) := (h.stored j u).1
theorem set6 {w : World} {base e sz g n cap : Nat} {xs : List Value} (h : w.ownsRow base e sz (.slice (some ⟨g, 0, none⟩) n cap) n xs) {i1 i2 i3 i4 i5 i6 : Nat} {u1 u2 u3 u4 u5 u6 : Value} : ((((((w.setCell ⟨g, i1, none⟩ u1).setCell ⟨g, i2, none⟩ u2).setCell ⟨g, i3, none⟩ u3).setCell ⟨g, i4, none⟩ u4).setCell ⟨g, i5, none⟩ u5).setCell ⟨g, i6, none⟩ u6).drew.ownsRow base e sz (.slice (some ⟨g, 0, none⟩) n cap) n ((((((xs.set i1 u1).set i2 u2).set i3 u3).set i4 u4).set i5 u5).set i6 u6) :=
  World.ownsRow.drew (own1 (own1 (own1 (own1 (own1 (own1 h i1 u1) i2 u2) i3 u3) i4 u4) i5 u5) i6 u6)
set_option maxRecDepth 100000 in
set_option maxHeartbeats 2000000 in
theorem rdone_any (B p : Nat) (L : List (Int × Raw)) (v : Value) (id seq : Int) (r : RD) (A : Option Addr) (c : Nat) (w : World) (h : DT B p L v w) (hl : L.length ≤ 1000000) :
    Calls Try.prog 19 #[.pointer (some ⟨p, 0, none⟩), .int .i64 id, .int .i64 seq, RV r A c] w (Docd B p v (rdoneErr L id seq) (rdoneL L id seq ⟨seq, r, A, c⟩) w) := by
  obtain ⟨SA, sc, rfl, hf⟩ := h.foot
  have H := hid h
  have HF := hid hf
  have HC := hid h.cell
  have HL := hid hl
  clear h hf hl
  rcases findI_cases L id with ⟨hf, hno⟩ | ⟨k, x, hf, hx, he, hk⟩
  · go_enter Try.func19, Try.ntmps19
    go_wp2_with fail
    refine (rfind_any p L SA sc id _ (blk_alloc HC.out _) (HF.out.step (Kp.al _ _)) HL.out).mono ?_
    rintro e w1 ⟨rfl, hk⟩
    rw [hf]
    have HK := hid hk
    clear hk
    go_wp2_with fail
    go_ret
    have h0 : rdoneErr L id seq = 14 := by rw [rdoneErr, hf]; rfl
    have h1 : rdoneL L id seq ⟨seq, r, A, c⟩ = L := by rw [rdoneL, h0]; rfl
    have hk : Kp All w w1 := (Kp.al _ _).trans HK.out
    rw [h0, h1]
    exact ⟨rfl, _, H.out.all hk, hk.all, .inl rfl⟩
  · go_enter Try.func19, Try.ntmps19
    go_wp2_with fail
    refine (rfind_any p L SA sc id _ (blk_alloc HC.out _) (HF.out.step (Kp.al _ _)) HL.out).mono ?_
    rintro e w1 ⟨rfl, hk'⟩
    rw [hf]
    have HK := hid hk'
    clear hk'
    have b0 := HK.out.heap (blk_new w (.cells #[.int .i64 r.err, .bool r.found, .string r.val, .int .i64 r.sess, .slice A r.pairs.length c] 26)) trivial
    have c1 := blk_cell b0
    have f1 := blk_free b0
    have hkw : Kp All w w1 := (Kp.al _ _).trans HK.out
    have c0 := blk_cell (hkw.heap HC.out trivial)
    obtain ⟨_, _, h3⟩ := (HF.out.step hkw).now
    obtain ⟨b, o, eA, hr⟩ := h3 (by omega)
    have cc := fun i (hi : i < 7) z (hz : (sc7 x)[i]? = some z) => hr (k * 7 + i) z ((ssc_at hx i hi).trans hz)
    have p0 := cc 0 (by omega) _ rfl
    have p1 := cc 1 (by omega) _ rfl
    have p2 := cc 2 (by omega) _ rfl
    have p3 := cc 3 (by omega) _ rfl
    have p4 := cc 4 (by omega) _ rfl
    have p5 := cc 5 (by omega) _ rfl
    have p6 := cc 6 (by omega) _ rfl
    simp only [← Nat.add_assoc, Nat.add_zero] at p0 p1 p2 p3 p4 p5 p6
    subst eA
    obtain rfl : o = 0 := by
      rcases own_at H.out.own with ⟨e, _⟩ | ⟨g, cap, cur, e, _⟩
      · cases e
      · injection e with e _ _; injection e with e; injection e
    rw [Nat.zero_add] at p0 p1 p2 p3 p4 p5 p6
    have hbp : b ≠ p := by
      have := H.out.ne
      intro e; exact this (by rw [e]; rfl)
    have hbw : b ≠ w.heap.size := by
      rcases own_at H.out.own with ⟨e, _⟩ | ⟨g, cap, cur, e, hg, _⟩
      · cases e
      · injection e with e _ _; injection e with e; injection e with e; rw [e]; exact Nat.ne_of_lt (blk_lt hg)
    have hO := own_kept H.out.own hkw fun _ _ => trivial
    have hfz : ∀ j, w1.frozen? ⟨b, j, none⟩ = false := fun j => hO.frozenAt j
    have i0 : (0 : Int) ≤ (k : Int) := by omega
    have i1 : (k : Int) < (L.length : Int) := by omega
    have dk : decide ((k : Int) < 0) = false := decide_eq_false (by omega)
    obtain ⟨z, x⟩ := x
    dsimp only at p0 p1 p2 p3 p4 p5 p6
    have HX := hid hx
    have HFI := hid hf
    have HO := hid hO
    clear hr cc h3 hx hf hO b0
    by_cases h1 : seq ≤ x.seq
    · have d1 : decide (seq ≤ x.seq) = true := decide_eq_true h1
      go_wp2_with fail
      go_ret
      have h0 : rdoneErr L id seq = 15 := by rw [rdoneErr, HFI.out]; simp [HX.out, h1]
      have h1 : rdoneL L id seq ⟨seq, r, A, c⟩ = L := by rw [rdoneL, h0]; rfl
      rw [h0, h1]
      exact ⟨rfl, _, H.out.all hkw, hkw.all, .inl rfl⟩
    · have d1 : decide (seq ≤ x.seq) = false := decide_eq_false h1
      go_wp2_with fail
      go_region
      go_wp2_with fail
      go_ret
      have h0 : rdoneErr L id seq = 0 := by rw [rdoneErr, HFI.out]; simp only [HX.out]; rw [if_neg (by omega)]
      have h2 : rdoneL L id seq ⟨seq, r, A, c⟩ = L.set k (id, ⟨seq, r, A, c⟩) := by rw [rdoneL, if_pos h0, HFI.out]; rfl
      have hs := set_sc HX.out ⟨seq, r, A, c⟩
      dsimp only at hs he
      rw [he] at hs
      rw [h0, h2]
      refine ⟨rfl, .slice (some ⟨b, 0, none⟩) L.length sc, ⟨?_, ?_⟩, ?_, .inl rfl⟩
      · exact far6 (hkw.heap HC.out trivial) (Ne.symm hbp)
      · rw [List.length_set, ← hs]
        exact set6 HO.out
      · have hb' : ¬ (b ≠ p ∧ some b ≠ (Value.slice (some ⟨b, 0, none⟩) L.length sc).ownBlock) := fun h => h.2 rfl
        exact out6 hkw.all hb'
end Go.Proofs.Ytkipijdbkkcioaa
