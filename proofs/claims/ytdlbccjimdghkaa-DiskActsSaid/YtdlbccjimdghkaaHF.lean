/- The document's disk in memory: New, Crash, begin, Start, Arm: walked once each. No condition but that it lies as RD says, is good, and its numbers are ints. -/
import Derived.Test.YtdlbccjimdghkaaHE
namespace Go.Proofs.Ytdlbccjimdghkaa
open Go.RowKit
set_option linter.unusedVariables false
set_option linter.unusedSimpArgs false
/-- The disk's own numbers told anew. -/
theorem RD0.fields {Z : Nat → Prop} {p : Nat} {R R' : DS} {lv bv : Value} {LV BV : List Itm} {w w' : World} (h : RD0 Z p R lv bv LV BV w) (k : Kp (fun i => i ≠ p) w w') (hc : w'.heap[p]? = some (.cells (rcs R' lv bv) 77 (0, 0)))
    (hf : R'.F = R.F) (hb : R'.B = R.B) : RD0 Z p R' lv bv LV BV w' := by
  have pne : ∀ {e sz n : Nat} {u : Value} {xs : List Value}, w.ownsRow 0 e sz u n xs → e ≠ 77 → ∀ i, u.ownBlock = some i → i ≠ p := by
    intro e sz n u xs hu he i hi ep
    rcases hu.2 with ⟨rfl, _⟩ | ⟨g, cap, cur', rfl, _, hg, _⟩
    · cases hi
    · injection hi with hi
      simp only at hi
      rw [hi, ep, h.cell] at hg
      injection hg with hg
      injection hg with _ hg
      exact he hg.symm
  exact ⟨hc, hf.trans h.fe, hb.trans h.be, own_kept h.fr k (pne h.fr (by decide)), own_kept h.br k (pne h.br (by decide)), fun x hx => own_kept (h.data x hx) k (pne (h.data x hx) (by decide)), h.zp, h.zl, h.zb, h.zd, fun b hb => Nat.lt_of_lt_of_le (h.lt b hb) k.size⟩
theorem RD0.rx {Z : Nat → Prop} {p : Nat} {R R' : DS} {lv bv : Value} {LV BV : List Itm} {w w' : World} (h : RD0 Z p R lv bv LV BV w) (k : Kp (fun i => i ≠ p) w w') (hc : w'.heap[p]? = some (.cells (rcs R' lv bv) 77 (0, 0)))
    (hf : R'.F = R.F) (hb : R'.B = R.B) : Rx Z p R' w w' := ⟨Z, ⟨_, _, _, _, h.fields k hc hf hb⟩, fun _ _ h => h, k.mono fun b _ hn e => hn (e ▸ h.zp)⟩
set_option maxRecDepth 100000 in
theorem qcrash_any (Z : Nat → Prop) (p : Nat) (R : DS) (keep : Int) (hk : keep ≤ 9223372036854775807) (w : World) (h : RD Z p R w) (hg : Gd R) :
    Calls Try.prog 58 #[.pointer (some ⟨p, 0, none⟩), .int .i64 keep] w fun e w' => e = .returned (.tuple #[]) ∧ Rx Z p (R.crash keep) w w' := by
  have H := hid h
  have HG := hid hg
  obtain ⟨n, hn⟩ : ∃ n, keep.toNat = n := ⟨_, rfl⟩
  have HN := hid hn
  have hnl : n ≤ 9223372036854775807 := by omega
  clear h hg
  have tail : ∀ w1, Rx Z p { R with F := settleF R.F R.B n, B := [] } w w1 → ∃ lv bv LV BV Z1, RD0 Z1 p { R with F := settleF R.F R.B n, B := [] } lv bv LV BV w1 ∧ (∀ b, b < w.heap.size → Z1 b → Z b) ∧ Kp (fun b => ¬ Z b) w w1 := fun w1 ⟨Z1, ⟨lv, bv, LV, BV, h1⟩, h2, h3⟩ => ⟨lv, bv, LV, BV, Z1, h1, h2, h3⟩
  have TA := hid tail
  clear tail
  have hcr : R.crash keep = { R with F := settleF R.F R.B n, B := [], off := true } := by rw [DS.crash, DS.settle, hn]
  rw [hcr]
  clear hcr hn
  by_cases h0 : keep < 0
  · have d0 : decide (keep < 0) = true := decide_eq_true h0
    obtain rfl : n = 0 := by have := HN.out; omega
    clear h0
    go_enter Try.func58, Try.ntmps58
    go_wp2_with fail
    refine (qsure_any Z p R 0 (by omega) _ H.out HG.out).mono ?_
    rintro e w1 ⟨rfl, hx⟩
    obtain ⟨lv, bv, LV, BV, Z1, h1, h2, h3⟩ := TA.out w1 hx
    have c1 := blk_cell h1.cell
    have f1 := blk_free h1.cell
    have H1 := hid h1; have H2 := hid h2; have H3 := hid h3
    clear hx h1 h2 h3
    go_wp2_with fail
    go_end0
    refine ⟨rfl, Rx.trans ⟨Z1, H2.out, H3.out, H1.out.rx ((Kp.refl _ _).setOut (by simp) _) (by rw [blk_set H1.out.cell 3]; rfl) rfl rfl⟩⟩
  · have d0 : decide (keep < 0) = false := decide_eq_false h0
    have e0 : keep = (n : Int) := by have := HN.out; omega
    rw [e0]
    rw [e0] at d0
    go_enter Try.func58, Try.ntmps58
    go_wp2_with fail
    refine (qsure_any Z p R n hnl _ H.out HG.out).mono ?_
    rintro e w1 ⟨rfl, hx⟩
    obtain ⟨lv, bv, LV, BV, Z1, h1, h2, h3⟩ := TA.out w1 hx
    have c1 := blk_cell h1.cell
    have f1 := blk_free h1.cell
    have H1 := hid h1; have H2 := hid h2; have H3 := hid h3
    clear hx h1 h2 h3
    go_wp2_with fail
    go_end0
    refine ⟨rfl, Rx.trans ⟨Z1, H2.out, H3.out, H1.out.rx ((Kp.refl _ _).setOut (by simp) _) (by rw [blk_set H1.out.cell 3]; rfl) rfl rfl⟩⟩
theorem Gd.same {R R' : DS} (h : Gd R) (hf : R'.F = R.F) (hb : R'.B = R.B) : Gd R' := by
  have h1 := h.f; have h2 := h.b; have h3 := h.s; have h4 := h.nd; have h5 := h.nm
  rw [← hf] at h1 h3 h4 h5; rw [← hb] at h2 h3 h5
  exact { f := h1, b := h2, s := h3, nd := h4, nm := h5 }
set_option maxRecDepth 100000 in
set_option maxHeartbeats 1000000 in
theorem qbegin_any (Z : Nat → Prop) (p : Nat) (R : DS) (ho0 : 0 ≤ R.ops) (ho : R.ops ≤ 4611686018427387904) (hf : R.fails ≤ 9223372036854775807) (hk : R.keep ≤ 9223372036854775807) (w : World) (h : RD Z p R w) (hg : Gd R) :
    Calls Try.prog 71 #[.pointer (some ⟨p, 0, none⟩)] w fun e w' => e = .returned (.bool R.fit) ∧ Rx Z p R.begun w w' := by
  obtain ⟨lv, bv, LV, BV, h⟩ := h
  have H := hid h
  have c1 := blk_cell h.cell
  have f1 := blk_free h.cell
  have HG := hid hg
  unfold rcs at c1
  have w1 : IntKind.i64.wrap (R.ops + 1) = R.ops + 1 := IntWalk.i64_in _ (by omega)
  clear h hg
  by_cases h0 : R.fails < 1
  · have d0 : decide (R.fails < 1) = true := decide_eq_true h0
    have hb : R.begun = { R with ops := R.ops + 1 } := by rw [DS.begun, if_pos h0]
    have hfit : R.fit = true := decide_eq_true (by omega)
    rw [hb, hfit]
    clear hb hfit h0
    go_enter Try.func71, Try.ntmps71
    go_wp2_with fail
    go_ret
    exact ⟨rfl, H.out.rx ((Kp.refl _ _).setOut (by simp) _) (by rw [blk_set H.out.cell 4]; rfl) rfl rfl⟩
  · have d0 : decide (R.fails < 1) = false := decide_eq_false h0
    have w2 : IntKind.i64.wrap (R.fails - 1) = R.fails - 1 := IntWalk.i64_in _ (by omega)
    by_cases h1 : R.fails = 1
    · have hb : R.begun = DS.crash { R with ops := R.ops + 1, fails := 0 } R.keep := by rw [DS.begun, if_neg h0, if_pos h1]
      have hfit : R.fit = false := decide_eq_false (by omega)
      have d1 : ((R.fails - 1 : Int) == 0) = true := by simp [h1]
      have HF1 := hid h1
      rw [hb, hfit]
      clear hb hfit h0 h1
      go_enter Try.func71, Try.ntmps71
      go_wp2_with fail
      have hD : RD0 Z p { R with ops := R.ops + 1, fails := 0 } lv bv LV BV ((w.setCell ⟨p, 4, none⟩ (.int .i64 (R.ops + 1))).setCell ⟨p, 5, none⟩ (.int .i64 (R.fails - 1))) := H.out.fields (((Kp.refl _ _).setOut (by simp) _).setOut (by simp) _) (by rw [blk_set (blk_set H.out.cell 4 _) 5, HF1.out]; rfl) rfl rfl
      have k2 : Kp (fun b => ¬ Z b) w ((w.setCell ⟨p, 4, none⟩ (.int .i64 (R.ops + 1))).setCell ⟨p, 5, none⟩ (.int .i64 (R.fails - 1))) := ((Kp.refl _ _).setOut (fun hn => hn H.out.zp) _).setOut (fun hn => hn H.out.zp) _
      have HD := hid hD; have HK2 := hid k2
      clear hD k2
      refine (qcrash_any Z p { R with ops := R.ops + 1, fails := 0 } R.keep hk _ ⟨_, _, _, _, HD.out⟩ (HG.out.same rfl rfl)).mono ?_
      rintro e w3 ⟨rfl, hx⟩
      have HX := hid hx
      clear hx
      go_wp2_with fail
      go_ret
      exact ⟨rfl, Rx.trans ⟨Z, fun _ _ h => h, HK2.out, HX.out⟩⟩
    · have hb : R.begun = { R with ops := R.ops + 1, fails := R.fails - 1 } := by rw [DS.begun, if_neg h0, if_neg h1]
      have hfit : R.fit = true := decide_eq_true (by omega)
      have d1 : ((R.fails - 1 : Int) == 0) = false := by simp; omega
      rw [hb, hfit]
      clear hb hfit h0 h1
      go_enter Try.func71, Try.ntmps71
      go_wp2_with fail
      go_ret
      exact ⟨rfl, H.out.rx (((Kp.refl _ _).setOut (by simp) _).setOut (by simp) _) (by rw [blk_set (blk_set H.out.cell 4 _) 5]; rfl) rfl rfl⟩
set_option maxRecDepth 100000 in
theorem qstart_any (Z : Nat → Prop) (p : Nat) (R : DS) (w : World) (h : RD Z p R w) :
    Calls Try.prog 59 #[.pointer (some ⟨p, 0, none⟩)] w fun e w' => e = .returned (.tuple #[]) ∧ Rx Z p R.start w w' := by
  obtain ⟨lv, bv, LV, BV, h⟩ := h
  have H := hid h
  have c1 := blk_cell h.cell
  have f1 := blk_free h.cell
  unfold rcs at c1
  clear h
  go_enter Try.func59, Try.ntmps59
  go_wp2_with fail
  go_end0
  exact ⟨rfl, H.out.rx (((Kp.refl _ _).setOut (by simp) _).setOut (by simp) _) (by rw [blk_set (blk_set H.out.cell 3 _) 5]; rfl) rfl rfl⟩
set_option maxRecDepth 100000 in
theorem qarm_any (Z : Nat → Prop) (p : Nat) (R : DS) (n keep : Int) (w : World) (h : RD Z p R w) :
    Calls Try.prog 57 #[.pointer (some ⟨p, 0, none⟩), .int .i64 n, .int .i64 keep] w fun e w' => e = .returned (.int .i64 (if R.off then 9 else 0)) ∧ Rx Z p (if R.off then R else { R with fails := n, keep := keep }) w w' := by
  obtain ⟨lv, bv, LV, BV, h⟩ := h
  have H := hid h
  have c1 := blk_cell h.cell
  have f1 := blk_free h.cell
  obtain ⟨fo, hfo⟩ : ∃ fo, R.off = fo := ⟨_, rfl⟩
  have HFO := hid hfo
  unfold rcs at c1
  rw [hfo] at c1 ⊢
  clear h hfo
  cases fo with
  | true =>
    go_enter Try.func57, Try.ntmps57
    go_wp2_with fail
    go_ret
    exact ⟨rfl, Rx.refl ⟨_, _, _, _, H.out⟩ (Kp.refl _ _)⟩
  | false =>
    go_enter Try.func57, Try.ntmps57
    go_wp2_with fail
    go_ret
    exact ⟨rfl, H.out.rx (((Kp.refl _ _).setOut (by simp) _).setOut (by simp) _) (by rw [blk_set (blk_set H.out.cell 5 _) 6]; unfold rcs; rw [HFO.out]; rfl) rfl rfl⟩
set_option maxRecDepth 100000 in
theorem qnew_any (n : Int) (h0 : 0 ≤ n) (h1 : n ≤ 16777216) (w : World) :
    Calls Try.prog 29 #[.int .i64 n] w fun e w' => e = .returned (.pointer (some ⟨w.heap.size, 0, none⟩)) ∧ RD (fun b => b = w.heap.size) w.heap.size ⟨n, false, 0, 0, 0, [], []⟩ w' ∧ Kp All w w' := by
  have d0 : decide (n < 0) = false := decide_eq_false (by omega)
  have d1 : decide (n > 16777216) = false := decide_eq_false (by omega)
  go_enter Try.func29, Try.ntmps29
  go_wp2_with fail
  go_ret
  exact ⟨rfl, ⟨.slice none 0 0, .slice none 0 0, [], [], ⟨blk_new w _, rfl, rfl, World.ownsRow_nil _ _ _ _, World.ownsRow_nil _ _ _ _, by simp, rfl, (fun b hb => by cases hb), (fun b hb => by cases hb), by simp, (fun b hb => by rw [hb]; simp)⟩⟩, Kp.al _ _⟩
theorem qnew_no (n : Int) (h : n < 0 ∨ 16777216 < n) (w : World) :
    Calls Try.prog 29 #[.int .i64 n] w fun e w' => e = .returned (.pointer none) ∧ w = w' := by
  by_cases h0 : n < 0
  · have d0 : decide (n < 0) = true := decide_eq_true h0
    clear h0
    go_enter Try.func29, Try.ntmps29
    go_wp2_with fail
    go_ret
    exact ⟨rfl, rfl⟩
  · have d0 : decide (n < 0) = false := decide_eq_false h0
    have d1 : decide (n > 16777216) = true := decide_eq_true (by omega)
    clear h0
    go_enter Try.func29, Try.ntmps29
    go_wp2_with fail
    go_ret
    exact ⟨rfl, rfl⟩
end Go.Proofs.Ytdlbccjimdghkaa
