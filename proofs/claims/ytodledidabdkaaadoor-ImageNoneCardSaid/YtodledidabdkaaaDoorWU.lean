/- ImageNone walked. No condition but where the library's variable lies. -/
import Derived.Test.YtodledidabdkaaaDoorWT
namespace Go.Proofs.YtodledidabdkaaaDoor
open Go.RowKit Go.Shelf V
set_option linter.unusedVariables false
set_option linter.unusedSimpArgs false
theorem lo_none (w : World) : Lo 0 0 none ⟨[], []⟩ (fun _ => False) w := ⟨rfl, fun _ h => h⟩
theorem pairs_none : pairsP ⟨[], []⟩ = [] := by unfold pairsP; rw [show fullP ⟨[], []⟩ = [] from rfl]; exact List.mergeSort_nil
theorem pairs_made (H : Tx → Nat) : pairsP (madeP 1) = [] := by
  obtain ⟨i0, _, _, _, n0⟩ := made_inv H (k := 0) (by omega)
  exact pairs_of i0 List.Pairwise.nil fun k v => ⟨fun h => absurd h (by simp), fun h => absurd h (n0 k v)⟩
theorem range_none (lo hi : Tx) (n : Int) : rangeP [] lo hi n = [] := by simp [rangeP]
theorem own_zero {w : World} {base e sz : Nat} {v : Value} (h : w.ownsRow base e sz v 0 []) : ∃ A c, v = .slice A 0 c := own_shape h
theorem sl_kept {A : Option Addr} {n c sz : Nat} {xs : List Value} {w w' : World} (h : Sl A n c sz xs w) (k : Kp All w w') : Sl A n c sz xs w' :=
  ⟨h.1, h.2.1, fun h0 => by
    obtain ⟨b, o, e, hr⟩ := h.2.2 h0
    exact ⟨b, o, e, fun j u hj => k.cell (hr j u hj) trivial⟩⟩
theorem sl_lit0 (w : World) (t : TypeId) : Sl (some ⟨w.heap.size, 0, none⟩) 1 1 1 (u8s [0]) (w.alloc (.cells #[.int .u8 0] t)) := by
  have := sl_new1 w (.int .u8 0) t
  exact this
theorem np_any (w : World) : Calls Tryd.prog 8 #[.pointer none] w fun e w' => ∃ A c, e = .returned (.slice A 0 c) ∧ Kp All w w' := by
  refine (ipairs_any 0 0 none ⟨[], []⟩ (fun _ => False) w (lo_none w)).mono ?_
  rintro e w' ⟨v, rfl, hr, k⟩
  rw [pairs_none] at hr
  obtain ⟨A, c, rfl⟩ := own_zero hr
  exact ⟨A, c, rfl, k⟩
theorem nr_any (f u : Tx) (n : Int) (w : World) : Calls Tryd.prog 9 #[.pointer none, .string f, .string u, .int .i64 n] w fun e w' => ∃ A c, e = .returned (.slice A 0 c) ∧ Kp All w w' := by
  refine (irange_any 0 0 none ⟨[], []⟩ (fun _ => False) f u n w (lo_none w)).mono ?_
  rintro e w' ⟨v, rfl, hr, k⟩
  rw [pairs_none, range_none] at hr
  obtain ⟨A, c, rfl⟩ := own_zero hr
  exact ⟨A, c, rfl, k⟩
theorem ne_any (w : World) : Calls Tryd.prog 11 #[.pointer none] w fun e w' => ∃ A c, e = .returned (.slice A 1 c) ∧ Sl A 1 c 1 (u8s [0]) w' ∧ Kp All w w' := by
  refine (iexport_any 0 0 none ⟨[], []⟩ (fun _ => False) w (by rw [pairs_none]; intro x hx; cases hx) (lo_none w)).mono ?_
  rintro e w' ⟨⟨v, rfl, hr⟩, k⟩
  rw [pairs_none, show encImg [] = [0] from by decide +kernel] at hr
  obtain ⟨A, c, rfl⟩ := own_shape hr
  exact ⟨A, c, rfl, (own_sl hr (Nat.le_refl _)).1, k⟩
theorem nsl_any (A B : Option Addr) (c d : Nat) (w : World) (h1 : Sl A 1 c 1 (u8s [0]) w) (h2 : Sl B 1 d 1 (u8s [0]) w) : Calls Tryd.prog 10 #[.slice A 1 c, .slice B 1 d] w fun e w' => e = .returned (.bool true) ∧ w = w' := by
  refine (rsame_any A B 1 c 1 d [0] [0] rfl rfl w h1 h2).mono ?_
  rintro e w' ⟨rfl, h⟩
  exact ⟨rfl, h⟩
theorem nsame_any {bm : Nat} {O : Nat → Prop} (w : World) (h : Lm 0 0 bm (madeP 1) O w) : Calls Tryd.prog 12 #[.pointer none, .pointer (some ⟨bm, 0, none⟩)] w fun e w' => e = .returned (.bool true) ∧ Kp All w w' := by
  refine (isame_any 0 0 0 0 none (some bm) ⟨[], []⟩ (madeP 1) (fun _ => False) O w (lo_none w) h).mono ?_
  rintro e w' ⟨rfl, k⟩
  exact ⟨by rw [pairs_none, pairs_made (sipP 0 0)]; rfl, k⟩
set_option maxRecDepth 100000 in
set_option maxHeartbeats 1000000 in
theorem imageNone_any (f u : Tx) (n : Int) (w : World) (hgs : Gs w) : Calls Tryd.prog 3 #[.agg #[.string f, .string u, .int .i64 n]] w fun e w' => e = .returned (.bool true) ∧ Kp All w w' := by
  have HG := hid hgs
  clear hgs
  go_enter Tryd.func3, Tryd.ntmps3
  go_wp2_with fail
  refine (nm_new 0 0 0 (by decide) (by decide) (by omega) w _ ?_ HG.out).mono ?_
  · first | exact Kp.refl _ _ | exact Kp.al _ _
  rintro e w1 ⟨bm, rfl, hm1, hk1⟩
  obtain ⟨O, hL, hO, hk⟩ := hm1
  have HL := hid hL
  have HK1 := hid hk
  have HB := hid hk1
  have HB0 := hid (hk1.heap (blk_new w _) trivial)
  have c1 := blk_cell HB0.out
  have hz1 := hk1.size
  clear hL hO hk hk1
  go_wp2_with fail
  have HC1 := hid c1
  go_region_held3 (fun w' => ∀ i, w'.cell? ⟨w.heap.size, i, none⟩ = (#[.string f, .string u, .int .i64 n] : Array Value)[i]?) (first | assumption | exact blk_cell (HK7.out.heap HB0.out trivial) | exact blk_cell (HK6.out.heap HB0.out trivial) | exact blk_cell (HK5.out.heap HB0.out trivial) | exact blk_cell (blk_alloc (HK4.out.heap HB0.out trivial) _) | exact blk_cell (HK4.out.heap HB0.out trivial) | exact blk_cell (blk_alloc (HK3.out.heap HB0.out trivial) _) | exact blk_cell (HK3.out.heap HB0.out trivial) | exact blk_cell (HK2.out.heap HB0.out trivial)) (first | (go_at_call 8; refine (np_any _).mono ?_; rintro e w2 ⟨A2, q2, rfl, k2⟩; have HK2 := hid ((Kp.refl All w1).drew.trans k2); clear k2) | (go_at_call 9; refine (nr_any f u n _).mono ?_; rintro e w3 ⟨A3, q3, rfl, k3⟩; have HK3 := hid (HK2.out.trans k3); clear k3) | (go_at_call 11; refine (ne_any _).mono ?_; rintro e w4 ⟨A4, q4, rfl, hs4, k4⟩; have HK4 := hid (show Kp All w1 w4 from by first | exact HK3.out.trans k4 | exact (HK3.out.alloc _).trans k4); have HS4 := hid hs4; have HX4 := hid k4; clear k4 hs4) | (go_at_call 10; refine (nsl_any _ _ _ _ _ (by first | exact HS4.out | exact sl_kept HS4.out (Kp.al _ _)) (by first | exact sl_lit0 _ _ | exact sl_kept (sl_lit0 _ _) HX4.out)).mono ?_; rintro e w5 ⟨rfl, k5⟩; have HK5 := hid (show Kp All w1 w5 from by (rw [← k5]; first | exact HK4.out.alloc _ | exact HK4.out)); clear k5) | (go_at_call 12; refine (nsame_any _ (HL.out.kept HK5.out (fun _ _ => trivial))).mono ?_; rintro e w6 ⟨rfl, k6⟩; have HK6 := hid (HK5.out.trans k6); clear k6) | (go_at_call 13; refine (lives07_any _ (HG.out.kept (HK1.out.trans HK6.out) trivial)).mono ?_; rintro e w7 ⟨rfl, k7⟩; have HK7 := hid (HK6.out.trans k7); clear k7))
  all_goals
    go_wp2_with fail
    go_ret
    exact ⟨rfl, HK1.out.trans HK7.out⟩
end Go.Proofs.YtodledidabdkaaaDoor
