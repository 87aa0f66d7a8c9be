/- Done of the session table: what it answers and leaves, walked once. -/
import Derived.Test.YtkipijdbkkcioaaSB
namespace Go.Proofs.Ytkipijdbkkcioaa
open Go.RowKit

def doneErr (T : List (Int × Int × RD)) (id seq : Int) : Int :=
  match aget T id with
  | none => 14
  | some x => if seq ≤ x.1 then 15 else 0
def doneT (T : List (Int × Int × RD)) (id seq : Int) (r : RD) : List (Int × Int × RD) := if doneErr T id seq = 0 then aset T id (seq, r) else T

theorem Tab.map_lt {S : Nat → Prop} {w : World} {p m : Nat} {T : List (Int × Int × RD)} (h : Tab S w p m T) : m < w.heap.size := by
  obtain ⟨X, ⟨es, ck, hb, _⟩, _⟩ := h.map
  exact blk_lt hb

set_option maxRecDepth 100000 in
theorem done_any (S : Nat → Prop) (p m : Nat) (T : List (Int × Int × RD)) (id seq : Int) (r : RD) (A : Option Addr) (c : Nat) (w : World) (h : Tab S w p m T) (hS : ¬ S m) (hnew : ∀ b, w.heap.size ≤ b → S b) (hr : Foot All (Ps A c r.pairs) w) (hrs : small r) :
    Calls Try.prog 12 #[.pointer (some ⟨p, 0, none⟩), .int .i64 id, .int .i64 seq, RV r A c] w (Turned S p m (doneErr T id seq) (doneT T id seq r) w) := by
  have hp : p < w.heap.size := blk_lt h.cell
  have H := hid h
  have HR := hid hr
  have HN := hid hnew
  clear h hr hnew
  obtain ⟨y, hy⟩ : ∃ y, aget T id = y := ⟨_, rfl⟩
  have HY := hid hy
  clear hy
  cases y with
  | none =>
    have h0 : Hid (doneErr T id seq = 14) := hid (by rw [doneErr, HY.out])
    go_enter Try.func12, Try.ntmps12
    go_wp2_with fail
    refine (find_any S p m T id _ (H.out.kept (Kp.al _ _) trivial trivial (fun _ _ _ => trivial))).mono ?_
    rintro e w1 ⟨x, rfl, hx1, hx2, hx3, hx4⟩
    rw [HY.out]
    simp only [Option.isSome_none, Bool.false_eq_true, if_false]
    have H1 := hid hx1; have H2 := hid hx2; have H3 := hid hx3; have H4 := hid hx4; clear hx1 hx2 hx3 hx4
    go_wp2_with fail
    go_ret
    have hl : doneT T id seq r = T := by rw [doneT, h0.out]; rfl
    rw [h0.out, hl]
    exact ⟨rfl, H.out.kept (((Kp.al w _).trans H4.out).trans (Kp.al w1 _)) trivial trivial (fun _ _ _ => trivial), (((Kp.al w _).trans H4.out).trans (Kp.al w1 _)).all⟩
  | some y =>
    by_cases h1 : seq ≤ y.1
    · have hd1 : decide (seq ≤ y.1) = true := decide_eq_true h1
      have h0 : Hid (doneErr T id seq = 15) := hid (by rw [doneErr, HY.out]; simp only; rw [if_pos h1])
      clear h1
      go_enter Try.func12, Try.ntmps12
      go_wp2_with fail
      refine (find_any S p m T id _ (H.out.kept (Kp.al _ _) trivial trivial (fun _ _ _ => trivial))).mono ?_
      rintro e w1 ⟨x, rfl, hx1, hx2, hx3, hx4⟩
      rw [HY.out] at hx1 ⊢
      obtain rfl : (x.seq, x.r) = y := hx1
      simp only [Option.isSome_some, if_true]
      have H2 := hid hx2; have H3 := hid hx3; have H4 := hid hx4
      clear hx2 hx3 hx4
      go_wp2_with fail
      go_ret
      have hl : doneT T id seq r = T := by rw [doneT, h0.out]; rfl
      rw [h0.out, hl]
      exact ⟨rfl, H.out.kept (((Kp.al w _).trans H4.out).trans (Kp.al w1 _)) trivial trivial (fun _ _ _ => trivial), (((Kp.al w _).trans H4.out).trans (Kp.al w1 _)).all⟩
    · have hd1 : decide (seq ≤ y.1) = false := decide_eq_false h1
      have h0 : Hid (doneErr T id seq = 0) := hid (by rw [doneErr, HY.out]; simp only; rw [if_neg h1])
      clear h1
      go_enter Try.func12, Try.ntmps12
      go_wp2_with fail
      refine (find_any S p m T id _ (H.out.kept (Kp.al _ _) trivial trivial (fun _ _ _ => trivial))).mono ?_
      rintro e w1 ⟨x, rfl, hx1, hx2, hx3, hx4⟩
      rw [HY.out] at hx1 ⊢
      obtain rfl : (x.seq, x.r) = y := hx1
      simp only [Option.isSome_some, if_true]
      have b1 := hx4.heap (blk_new w _) trivial
      have c1 := blk_cell b1
      have f1 := blk_free b1
      have hs : w.heap.size < w1.heap.size := blk_lt b1
      have b2 := hx4.heap (blk_alloc H.out.cell _) trivial
      have c2 := blk_cell b2
      have hs2 : p < w1.heap.size := blk_lt b2
      have ht := H.out.kept ((Kp.al _ _).trans hx4) trivial trivial (fun _ _ _ => trivial)
      obtain ⟨X, hX, hT, hF⟩ := ht.map
      have HX := hid hX; have HT := hid hT; have HF := hid hF; have H1 := hid ht
      have hpm : p ≠ m := H.out.ne
      have hwm : w.heap.size ≠ m := by have := H.out.map_lt; omega
      have H2 := hid hx2; have H3 := hid hx3; have H4 := hid hx4; have B1 := hid b1; have B2 := hid b2
      clear hx2 hx3 hx4 b1 b2 ht hX hT hF
      go_wp2_with fail
      go_region_held3 (fun w' => (∀ i, w'.cell? ⟨p, i, none⟩ = (#[.map (some m)] : Array Value)[i]?) ∧ (∀ i, w'.cell? ⟨w.heap.size, i, none⟩ = (#[.int .i64 r.err, .bool r.found, .string r.val, .int .i64 r.sess, .slice A r.pairs.length c] : Array Value)[i]?))
        (first | exact ⟨cA3, cB3⟩ | exact ⟨cA, cB⟩ | (refine ⟨fun i => ?_, fun i => ?_⟩ <;> go_simp))
        ((go_at_call 28; refine (copied_any r A c _ (HR.out.step ((Kp.al _ _).trans (H4.out.trans (by exact (Kp.al _ _).drew)))) hrs).mono ?_; rintro e w2 ⟨⟨A', c', rfl, hf⟩, hk⟩; have bA := hk.heap (blk_alloc B2.out _) trivial; have bB := hk.heap (blk_alloc B1.out _) trivial; have cA := blk_cell bA; have cB := blk_cell bB; obtain ⟨w3, hr3, hm3, hk3⟩ := KMap.update2 intKey Try.underlying58 (HX.out.all (((Kp.al _ _).drew).trans hk)) id (LV seq r A' c'); have cA3 := blk_cell (hk3.heap bA hpm); have cB3 := blk_cell (hk3.heap bB hwm); have HF2 := hid hf; have HK := hid hk; have HM3 := hid hm3; have HK3 := hid hk3; clear hf hk bA bB hm3 hk3))
      go_wp2_with fail
      go_ret
      have hk2 : Kp All w1 w2 := ((Kp.al _ _).drew).trans HK.out
      have hl : doneT T id seq r = aset T id (seq, r) := by rw [doneT, if_pos h0.out]
      rw [h0.out, hl]
      have hw1 : w.heap.size < w2.heap.size := by have := hk2.size; omega
      refine ⟨rfl, ?_, (((Kp.al _ _).trans H4.out).trans hk2).all.trans HK3.out⟩
      refine (H1.out.kept hk2 trivial trivial (fun _ _ _ => trivial)).set HT.out (fun x hx => ⟨(HF.out x hx).1.step hk2.all, (HF.out x hx).2⟩) (y := ⟨seq, r, A', c'⟩) HM3.out HK3.out hS ?_ hrs
      refine (HF2.out.step (HK3.out.mono fun b _ hb => ?_)).mono fun b _ hb => HN.out b ?_
      · have := H.out.map_lt
        simp at hb
        omega
      · simp at hb
        omega

end Go.Proofs.Ytkipijdbkkcioaa
