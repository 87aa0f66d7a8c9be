/- A table of sessions that no call made: what each call answers to it, walked once each. No condition. -/
import Derived.Test.YtkipijdbkkcioaaSE
namespace Go.Proofs.Ytkipijdbkkcioaa
open Go.RowKit
set_option linter.unusedVariables false
def ZeroT (w : World) (po : Option Addr) : Prop := po = none ∨ ∃ z, po = some ⟨z, 0, none⟩ ∧ w.heap[z]? = some (.cells #[.map none] 60 (0, 0))
def NoT (w : World) (po : Option Addr) : Prop := ∀ w1, Kp All w w1 → Calls Try.prog 26 #[.pointer po] w1 fun e w' => e = .returned (.bool false) ∧ w1 = w'
theorem NoT.step {w w1 : World} {po : Option Addr} (h : NoT w po) (k : Kp All w w1) : NoT w1 po := fun w2 k2 => h w2 (k.trans k2)
theorem ZeroT.step {w w1 : World} {po : Option Addr} (h : ZeroT w po) (k : Kp All w w1) : ZeroT w1 po := by
  rcases h with h | ⟨z, h1, h2⟩
  · exact .inl h
  · exact .inr ⟨z, h1, k.heap h2 trivial⟩
set_option maxRecDepth 100000 in
theorem made_no {w : World} {po : Option Addr} (h : ZeroT w po) : NoT w po := by
  intro w1 k
  have hn := fun (w : World) (m : Option Nat) => run_neq_map_nil w 58 3 69 m Try.underlying58
  rcases h.step k with rfl | ⟨z, rfl, hz⟩
  · clear h
    go_enter Try.func26, Try.ntmps26
    go_wp2
    go_ret
    exact ⟨rfl, rfl⟩
  · have c1 := blk_cell hz
    clear h hz
    go_enter Try.func26, Try.ntmps26
    go_wp2
    go_ret
    exact ⟨rfl, rfl⟩
set_option maxRecDepth 100000 in
theorem find_no {w : World} {po : Option Addr} (id : Int) (h : NoT w po) : Calls Try.prog 27 #[.pointer po, .int .i64 id] w fun e w' => e = .returned (.tuple #[Raw.v .z, .int .i64 1]) ∧ Kp All w w' := by
  have H := hid h
  clear h
  go_enter Try.func27, Try.ntmps27
  go_wp2_with fail
  refine (H.out _ (by repeat (first | (with_reducible exact Kp.refl _ _) | (with_reducible refine Kp.alloc ?_ _) | (with_reducible refine Kp.drew ?_) | (with_reducible refine Kp.drewN ?_ _)))).mono ?_
  rintro e w1 ⟨rfl, rfl⟩
  go_wp2_with fail
  exact bodyPost_ret (v := .tuple #[Raw.v .z, .int .i64 1]) (by simp [results, Try.results27, go_sem, Raw.z, RD.z]) rfl ⟨rfl, by repeat (first | (with_reducible exact Kp.refl _ _) | (with_reducible refine Kp.alloc ?_ _) | (with_reducible refine Kp.drew ?_) | (with_reducible refine Kp.drewN ?_ _))⟩
set_option maxRecDepth 100000 in
theorem open_no {w : World} {po : Option Addr} (id : Int) (h : NoT w po) : Calls Try.prog 11 #[.pointer po, .int .i64 id] w fun e w' => e = .returned (.int .i64 1) ∧ Kp All w w' := by
  have H := hid h
  clear h
  go_enter Try.func11, Try.ntmps11
  go_wp2_with fail
  refine (H.out _ (by repeat (first | (with_reducible exact Kp.refl _ _) | (with_reducible refine Kp.alloc ?_ _) | (with_reducible refine Kp.drew ?_) | (with_reducible refine Kp.drewN ?_ _)))).mono ?_
  rintro e w1 ⟨rfl, rfl⟩
  go_wp2_with fail
  go_ret
  exact ⟨rfl, by repeat (first | (with_reducible exact Kp.refl _ _) | (with_reducible refine Kp.alloc ?_ _) | (with_reducible refine Kp.drew ?_) | (with_reducible refine Kp.drewN ?_ _))⟩
set_option maxRecDepth 100000 in
theorem ask_no {w : World} {po : Option Addr} (id seq : Int) (h : NoT w po) : Calls Try.prog 14 #[.pointer po, .int .i64 id, .int .i64 seq] w fun e w' => e = .returned (.tuple #[RV .z none 0, .int .i64 1]) ∧ Kp All w w' := by
  have H := hid h
  clear h
  go_enter Try.func14, Try.ntmps14
  go_wp2_with fail
  refine (find_no id (H.out.step (by repeat (first | (with_reducible exact Kp.refl _ _) | (with_reducible refine Kp.alloc ?_ _) | (with_reducible refine Kp.drew ?_) | (with_reducible refine Kp.drewN ?_ _))))).mono ?_
  rintro e w1 ⟨rfl, hx4⟩
  have b1 := hx4.heap (blk_new w _) trivial
  have c1 := blk_cell b1
  have f1 := blk_free b1
  have hs : w.heap.size < w1.heap.size := blk_lt b1
  have H4 := hid hx4
  unfold Raw.z RD.z
  clear b1 hx4
  go_wp2_with fail
  refine bodyPost_ret (v := .tuple #[RV .z none 0, .int .i64 1]) (by simp [results, Try.results14, go_sem, c1, f1, hs, RD.z]) rfl ⟨rfl, ?_⟩
  have KPX : Kp All w w1 := (Kp.al _ _).trans H4.out
  repeat (first | (with_reducible exact KPX) | (with_reducible exact Kp.refl _ _) | (with_reducible refine Kp.alloc ?_ _) | (with_reducible refine Kp.setNew ?_ (by omega) _) | (with_reducible refine Kp.drew ?_) | (with_reducible refine Kp.drewN ?_ _))
set_option maxRecDepth 100000 in
theorem done_no {w : World} {po : Option Addr} (id seq : Int) (r : RD) (A : Option Addr) (c : Nat) (h : NoT w po) : Calls Try.prog 12 #[.pointer po, .int .i64 id, .int .i64 seq, RV r A c] w fun e w' => e = .returned (.int .i64 1) ∧ Kp All w w' := by
  have H := hid h
  clear h
  go_enter Try.func12, Try.ntmps12
  go_wp2_with fail
  refine (find_no id (H.out.step (by repeat (first | (with_reducible exact Kp.refl _ _) | (with_reducible refine Kp.alloc ?_ _) | (with_reducible refine Kp.drew ?_) | (with_reducible refine Kp.drewN ?_ _))))).mono ?_
  rintro e w1 ⟨rfl, hx4⟩
  have H4 := hid hx4
  unfold Raw.z RD.z
  clear hx4
  go_wp2_with fail
  go_ret
  exact ⟨rfl, ((Kp.al w _).trans H4.out).alloc _⟩
set_option maxRecDepth 100000 in
theorem expire_no {w : World} {po : Option Addr} (id : Int) (h : NoT w po) : Calls Try.prog 13 #[.pointer po, .int .i64 id] w fun e w' => e = .returned (.int .i64 1) ∧ Kp All w w' := by
  have H := hid h
  clear h
  go_enter Try.func13, Try.ntmps13
  go_wp2_with fail
  refine (find_no id (H.out.step (by repeat (first | (with_reducible exact Kp.refl _ _) | (with_reducible refine Kp.alloc ?_ _) | (with_reducible refine Kp.drew ?_) | (with_reducible refine Kp.drewN ?_ _))))).mono ?_
  rintro e w1 ⟨rfl, hx4⟩
  have H4 := hid hx4
  unfold Raw.z RD.z
  clear hx4
  go_wp2_with fail
  go_ret
  exact ⟨rfl, H4.out.alloc _⟩
set_option maxRecDepth 100000 in
theorem ids_no {w : World} {po : Option Addr} (h : NoT w po) : Calls Try.prog 16 #[.pointer po] w fun e w' => e = .returned (.slice none 0 0) ∧ Kp All w w' := by
  have H := hid h
  clear h
  go_enter Try.func16, Try.ntmps16
  go_wp2_with fail
  refine (H.out _ (by repeat (first | (with_reducible exact Kp.refl _ _) | (with_reducible refine Kp.alloc ?_ _) | (with_reducible refine Kp.drew ?_) | (with_reducible refine Kp.drewN ?_ _)))).mono ?_
  rintro e w1 ⟨rfl, rfl⟩
  go_wp2_with fail
  go_ret
  exact ⟨rfl, by repeat (first | (with_reducible exact Kp.refl _ _) | (with_reducible refine Kp.alloc ?_ _) | (with_reducible refine Kp.drew ?_) | (with_reducible refine Kp.drewN ?_ _))⟩
set_option maxRecDepth 100000 in
theorem bytes_no {w : World} {po : Option Addr} (h : NoT w po) : Calls Try.prog 23 #[.pointer po] w fun e w' => e = .returned (.slice none 0 0) ∧ Kp All w w' := by
  have H := hid h
  clear h
  go_enter Try.func23, Try.ntmps23
  go_wp2_with fail
  refine (H.out _ (by repeat (first | (with_reducible exact Kp.refl _ _) | (with_reducible refine Kp.alloc ?_ _) | (with_reducible refine Kp.drew ?_) | (with_reducible refine Kp.drewN ?_ _)))).mono ?_
  rintro e w1 ⟨rfl, rfl⟩
  go_wp2_with fail
  go_ret
  exact ⟨rfl, by repeat (first | (with_reducible exact Kp.refl _ _) | (with_reducible refine Kp.alloc ?_ _) | (with_reducible refine Kp.drew ?_) | (with_reducible refine Kp.drewN ?_ _))⟩
end Go.Proofs.Ytkipijdbkkcioaa
