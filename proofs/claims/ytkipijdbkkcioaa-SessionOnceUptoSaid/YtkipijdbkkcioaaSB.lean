/- Expire and Ask of the session table: what each answers and leaves, walked once each. -/
import Derived.Test.YtkipijdbkkcioaaSA
namespace Go.Proofs.Ytkipijdbkkcioaa
open Go.RowKit

def expErr (T : List (Int × Int × RD)) (id : Int) : Int := if (aget T id).isSome then 0 else 14
def expT (T : List (Int × Int × RD)) (id : Int) : List (Int × Int × RD) := if (aget T id).isSome then adel T id else T

set_option maxRecDepth 100000 in
theorem expire_any (S : Nat → Prop) (p m : Nat) (T : List (Int × Int × RD)) (id : Int) (w : World) (h : Tab S w p m T) (hS : ¬ S m) :
    Calls Try.prog 13 #[.pointer (some ⟨p, 0, none⟩), .int .i64 id] w (Turned S p m (expErr T id) (expT T id) w) := by
  have hp : p < w.heap.size := blk_lt h.cell
  have H := hid h
  clear h
  obtain ⟨b, hb⟩ : ∃ b, (aget T id).isSome = b := ⟨_, rfl⟩
  have HB := hid hb
  clear hb
  cases b
  · go_enter Try.func13, Try.ntmps13
    go_wp2_with fail
    refine (find_any S p m T id w H.out).mono ?_
    rintro e w1 ⟨x, rfl, hx1, hx2, hx3, hx4⟩
    rw [HB.out]
    have H1 := hid hx1; have H2 := hid hx2; have H3 := hid hx3; have H4 := hid hx4; clear hx1 hx2 hx3 hx4
    go_wp2_with fail
    go_ret
    have h0 : expErr T id = 14 := by rw [expErr, HB.out]; rfl
    have h1 : expT T id = T := by rw [expT, HB.out]; rfl
    rw [h0, h1]
    exact ⟨rfl, H.out.kept (H4.out.trans (Kp.al _ _)) trivial trivial (fun _ _ _ => trivial), (H4.out.trans (Kp.al _ _)).all⟩
  · go_enter Try.func13, Try.ntmps13
    go_wp2_with fail
    refine (find_any S p m T id w H.out).mono ?_
    rintro e w1 ⟨x, rfl, hx1, hx2, hx3, hx4⟩
    rw [HB.out]
    have h' := H.out.kept hx4 trivial trivial (fun _ _ _ => trivial)
    obtain ⟨X, hX, hT, hF⟩ := h'.map
    have H' := hid h'
    have HX := hid hX
    have HT := hid hT
    have HF := hid hF
    have c1 := blk_cell h'.cell
    have hp1 : p < w1.heap.size := blk_lt h'.cell
    clear h' hX hT hF
    have H1 := hid hx1; have H2 := hid hx2; have H3 := hid hx3; have H4 := hid hx4; clear hx1 hx2 hx3 hx4
    go_wp2_with (at_delete; go_loud (refine wpList_mapdel intKey Try.underlying58 (HX.out.all (Kp.al _ _)) id rfl _ _ rfl rfl rfl ?_; intro w2 hm2 hk2))
    go_ret
    have h0 : expErr T id = 0 := by rw [expErr, HB.out]; rfl
    have h1 : expT T id = adel T id := by rw [expT, HB.out]; rfl
    rw [h0, h1]
    refine ⟨rfl, ?_, ((H4.out.trans (Kp.al _ _)).all).trans hk2⟩
    exact (H'.out.kept (Kp.al _ _) trivial trivial (fun _ _ _ => trivial)).del HT.out (fun x hx => ⟨(HF.out x hx).1.step (Kp.al _ _).all, (HF.out x hx).2⟩) hm2 hk2 hS

def askErr (T : List (Int × Int × RD)) (id seq : Int) : Int :=
  match aget T id with
  | none => 14
  | some x => if seq < max x.1 1 then 15 else if x.1 < seq then 4 else 0
def askR (T : List (Int × Int × RD)) (id seq : Int) : RD := if askErr T id seq = 0 then ((aget T id).getD (0, .z)).2 else .z
def Asked (T : List (Int × Int × RD)) (id seq : Int) (w : World) (e : Ending) (w' : World) : Prop :=
  ∃ A c, e = .returned (.tuple #[RV (askR T id seq) A c, .int .i64 (askErr T id seq)]) ∧ Foot (fun b => w.heap.size ≤ b) (Ps A c (askR T id seq).pairs) w' ∧ Kp All w w'

theorem ps_nil (S : Nat → Prop) (w : World) : Foot S (Ps none 0 []) w := fun u _ => ⟨rfl, Nat.le_refl _, fun h => absurd h (by simp)⟩

set_option maxRecDepth 100000 in
theorem ask_any (S : Nat → Prop) (p m : Nat) (T : List (Int × Int × RD)) (id seq : Int) (w : World) (h : Tab S w p m T) :
    Calls Try.prog 14 #[.pointer (some ⟨p, 0, none⟩), .int .i64 id, .int .i64 seq] w (Asked T id seq w) := by
  have hp : p < w.heap.size := blk_lt h.cell
  have H := hid h
  clear h
  obtain ⟨y, hy⟩ : ∃ y, aget T id = y := ⟨_, rfl⟩
  have HY := hid hy
  clear hy
  cases y with
  | none =>
    go_enter Try.func14, Try.ntmps14
    go_wp2_with fail
    refine (find_any S p m T id _ (H.out.kept (Kp.al _ _) trivial trivial (fun _ _ _ => trivial))).mono ?_
    rintro e w1 ⟨x, rfl, hx1, hx2, hx3, hx4⟩
    rw [HY.out]
    simp only [Option.isSome_none, Bool.false_eq_true, if_false]
    have b1 := hx4.heap (blk_new w _) trivial
    have c1 := blk_cell b1
    have f1 := blk_free b1
    have hs : w.heap.size < w1.heap.size := blk_lt b1
    clear b1
    have H1 := hid hx1; have H2 := hid hx2; have H3 := hid hx3; have H4 := hid hx4; clear hx1 hx2 hx3 hx4
    go_wp2_with fail
    have h0 : askErr T id seq = 14 := by rw [askErr, HY.out]
    have h1 : askR T id seq = .z := by rw [askR, h0]; rfl
    refine bodyPost_ret (v := .tuple #[RV .z none 0, .int .i64 14]) (by simp [results, Try.results14, go_sem, c1, f1, hs, RD.z]) rfl ⟨none, 0, by rw [h0, h1], by rw [h1]; exact ps_nil _ _, ?_⟩
    have KPX : Kp All w w1 := (Kp.al _ _).trans H4.out
    repeat (first | (with_reducible exact KPX) | (with_reducible exact Kp.refl _ _) | (with_reducible refine Kp.alloc ?_ _) | (with_reducible refine Kp.setNew ?_ (by omega) _) | (with_reducible refine Kp.drew ?_) | (with_reducible refine Kp.drewN ?_ _))
  | some y =>
    have hmx := fun w => run_max2 (P := Try.prog) w 3 3 .i64 y.1 1
    by_cases h1 : seq < max y.1 1
    · have hd1 : decide (seq < max y.1 1) = true := decide_eq_true h1
      have h0 : Hid (askErr T id seq = 15) := hid (by rw [askErr, HY.out]; simp only; rw [if_pos h1])
      have h0' : Hid (askR T id seq = .z) := hid (by rw [askR, h0.out]; rfl)
      clear h1
      go_enter Try.func14, Try.ntmps14
      go_wp2_with fail; refine (find_any S p m T id _ (H.out.kept (Kp.al _ _) trivial trivial (fun _ _ _ => trivial))).mono ?_; rintro e w1 ⟨x, rfl, hx1, hx2, hx3, hx4⟩; rw [HY.out] at hx1 ⊢; obtain rfl : (x.seq, x.r) = y := hx1; simp only [Option.isSome_some, if_true]
      have b1 := hx4.heap (blk_new w _) trivial; have c1 := blk_cell b1; have f1 := blk_free b1; have hs : w.heap.size < w1.heap.size := blk_lt b1
      have H2 := hid hx2; have H3 := hid hx3; have H4 := hid hx4
      clear hx2 hx3 hx4 b1
      go_wp2_with fail
      refine bodyPost_ret (v := .tuple #[RV .z none 0, .int .i64 15]) (by simp [results, Try.results14, go_sem, c1, f1, hs, RD.z]) rfl ⟨none, 0, by rw [h0.out, h0'.out], by rw [h0'.out]; exact ps_nil _ _, ?_⟩
      have KPX : Kp All w w1 := (Kp.al _ _).trans H4.out
      repeat (first | (with_reducible exact KPX) | (with_reducible exact Kp.refl _ _) | (with_reducible refine Kp.alloc ?_ _) | (with_reducible refine Kp.setNew ?_ (by omega) _) | (with_reducible refine Kp.drew ?_) | (with_reducible refine Kp.drewN ?_ _))
    · have hd1 : decide (seq < max y.1 1) = false := decide_eq_false h1
      by_cases h2 : y.1 < seq
      · have hd2 : decide (y.1 < seq) = true := decide_eq_true h2
        have h0 : Hid (askErr T id seq = 4) := hid (by rw [askErr, HY.out]; simp only; rw [if_neg h1, if_pos h2])
        have h0' : Hid (askR T id seq = .z) := hid (by rw [askR, h0.out]; rfl)
        clear h1 h2
        go_enter Try.func14, Try.ntmps14
        go_wp2_with fail; refine (find_any S p m T id _ (H.out.kept (Kp.al _ _) trivial trivial (fun _ _ _ => trivial))).mono ?_; rintro e w1 ⟨x, rfl, hx1, hx2, hx3, hx4⟩; rw [HY.out] at hx1 ⊢; obtain rfl : (x.seq, x.r) = y := hx1; simp only [Option.isSome_some, if_true]
        have b1 := hx4.heap (blk_new w _) trivial; have c1 := blk_cell b1; have f1 := blk_free b1; have hs : w.heap.size < w1.heap.size := blk_lt b1
        have H2 := hid hx2; have H3 := hid hx3; have H4 := hid hx4
        clear hx2 hx3 hx4 b1
        go_wp2_with fail
        refine bodyPost_ret (v := .tuple #[RV .z none 0, .int .i64 4]) (by simp [results, Try.results14, go_sem, c1, f1, hs, RD.z]) rfl ⟨none, 0, by rw [h0.out, h0'.out], by rw [h0'.out]; exact ps_nil _ _, ?_⟩
        have KPX : Kp All w w1 := (Kp.al _ _).trans H4.out
        repeat (first | (with_reducible exact KPX) | (with_reducible exact Kp.refl _ _) | (with_reducible refine Kp.alloc ?_ _) | (with_reducible refine Kp.setNew ?_ (by omega) _) | (with_reducible refine Kp.drew ?_) | (with_reducible refine Kp.drewN ?_ _))
      · have hd2 : decide (y.1 < seq) = false := decide_eq_false h2
        have h0 : Hid (askErr T id seq = 0) := hid (by rw [askErr, HY.out]; simp only; rw [if_neg h1, if_neg h2])
        have h0' : Hid (askR T id seq = y.2) := hid (by rw [askR, h0.out, HY.out]; rfl)
        clear h1 h2
        go_enter Try.func14, Try.ntmps14
        go_wp2_with fail; refine (find_any S p m T id _ (H.out.kept (Kp.al _ _) trivial trivial (fun _ _ _ => trivial))).mono ?_; rintro e w1 ⟨x, rfl, hx1, hx2, hx3, hx4⟩; rw [HY.out] at hx1 ⊢; obtain rfl : (x.seq, x.r) = y := hx1; simp only [Option.isSome_some, if_true]
        have b1 := hx4.heap (blk_new w _) trivial; have c1 := blk_cell b1; have f1 := blk_free b1; have hs : w.heap.size < w1.heap.size := blk_lt b1
        have H2 := hid hx2; have H3 := hid hx3; have H4 := hid hx4; have B1 := hid b1
        clear hx2 hx3 hx4 b1
        go_wp2_with fail
        refine (copied_any x.r x.A x.c _ ((H2.out.step (Kp.al _ _).all).mono fun _ _ _ => trivial) H3.out).mono ?_
        rintro e w2 ⟨⟨A', c', rfl, hf⟩, hk⟩
        have b1 := hk.heap (blk_alloc B1.out _) trivial
        have c1 := blk_cell b1
        have f1 := blk_free b1
        have HF : Hid (Foot (fun b => w1.heap.size < b) (Ps A' c' x.r.pairs) w2) := hid (hf.mono fun k _ h => by simp at h; omega)
        have HK := hid hk
        clear hf hk b1
        go_wp2_with fail
        refine bodyPost_ret (v := .tuple #[RV x.r A' c', .int .i64 0]) (by simp [results, Try.results14, go_sem, c1, f1]) rfl ⟨A', c', by rw [h0.out, h0'.out], ?_, ?_⟩
        · rw [h0'.out]
          refine (HF.out.step ?_).mono fun k _ h => by omega
          repeat (first | (with_reducible exact Kp.refl _ _) | (with_reducible refine Kp.setOut ?_ (by omega) _))
        · have KPX : Kp All w w2 := ((Kp.al _ _).trans H4.out).trans ((Kp.al _ _).trans HK.out)
          repeat (first | (with_reducible exact KPX) | (with_reducible exact Kp.refl _ _) | (with_reducible refine Kp.alloc ?_ _) | (with_reducible refine Kp.setNew ?_ (by omega) _) | (with_reducible refine Kp.drew ?_) | (with_reducible refine Kp.drewN ?_ _))

end Go.Proofs.Ytkipijdbkkcioaa
