/- An act on both disks: Create, Remove, Rename, Spoil, Arm: walked once each. No condition but that the disks lie and are alike. -/
import Derived.Test.YtdlbccjimdghkaaJA
namespace Go.Proofs.Ytdlbccjimdghkaa
open Go.RowKit
set_option linter.unusedVariables false
set_option linter.unusedSimpArgs false
/-- An act that may be looked at. -/
structure AOk (w0 : World) (N : Nat) (x : A8) : Prop where
  a : x.a.size ≤ 9223372036854775806
  b : x.b.size ≤ 9223372036854775806
  d : Foot All (Sl x.A x.data.length x.c 1 (u8s x.data)) w0
  n : x.n ≤ 9223372036854775807
  k : x.k ≤ 9223372036854775807
  c : N + 2 + x.data.length ≤ 100000
set_option maxRecDepth 100000 in
set_option maxHeartbeats 4000000 in
theorem act0 (w0 w : World) (p q N : Nat) (ro : Nat → Role) (Z : Nat → Prop) (D R : DS) (h : Two w0 p q ro Z D R w) (hb : Bo N D R) (x : A8) (hx : AOk w0 N x) (hk : x.kind = 0) :
    Calls Try.prog 30 #[.pointer (some ⟨p, 0, none⟩), .pointer (some ⟨q, 0, none⟩), .agg #[.int .i64 x.kind, .string x.a, .string x.b, .slice x.A x.data.length x.c, .int .i64 x.n, .int .i64 x.k]] w (Acted w0 p q (N + 2 + x.data.length)) := by
  have H := hid h; have HB := hid hb; have HX := hid hx
  have d0 : ((x.kind : Int) == 0) = true := beq_iff_eq.2 hk
  clear h hb hx hk
  go_enter Try.func30, Try.ntmps30
  go_wp2_with fail
  have b7 := blk_new w (Obj.cells #[.int .i64 x.kind, .string x.a, .string x.b, .slice x.A x.data.length x.c, .int .i64 x.n, .int .i64 x.k] 34); have k7 : Kp All w (w.alloc (Obj.cells #[.int .i64 x.kind, .string x.a, .string x.b, .slice x.A x.data.length x.c, .int .i64 x.n, .int .i64 x.k] 34)) := Kp.al _ _; obtain ⟨W7, hW7⟩ : ∃ W7, W7 = w.alloc (Obj.cells #[.int .i64 x.kind, .string x.a, .string x.b, .slice x.A x.data.length x.c, .int .i64 x.n, .int .i64 x.k] 34) := ⟨_, rfl⟩; rw [← hW7] at b7 k7 ⊢; have c7 := blk_cell b7; have B7 := hid b7; have H7 := hid (H.out.all k7.drew); have HN7 := hid (H.out.nd (Nat.le_refl _)); clear b7 hW7 k7
  go_region_held3 (fun w' => ∀ i, w'.cell? ⟨w.heap.size, i, none⟩ = (#[.int .i64 x.kind, .string x.a, .string x.b, .slice x.A x.data.length x.c, .int .i64 x.n, .int .i64 x.k] : Array Value)[i]?) (first | exact blk_cell HB9.out | exact blk_cell HB8.out | assumption) (first | (go_at_call 48; have h8' := H8.out; clear h8'; refine (qcreate_any Z q R x.a HX.out.a _ H8.out.r (HB.out.go (by have := HX.out.c; omega))).mono ?_; rw [← HB.out.a.creErr HB.out.nd]; rintro e w9 ⟨rfl, hx9⟩; obtain ⟨Z9, ht9, hk9⟩ := H8.out.doc hx9; have H9 := hid ht9; have HB9 := hid (hk9.heap HB8.out HN7.out.2); clear hx9 ht9 hk9) | (go_at_call 14; refine (create_any p ro D (HB.out.ok (by have := HX.out.c; omega)) x.a HX.out.a _ H7.out.d).mono ?_; rintro e w8 ⟨rfl, hx8⟩; obtain ⟨ro8, ht8, hk8⟩ := H7.out.prog hx8; have H8 := hid ht8; have HB8 := hid (hk8.heap B7.out HN7.out.1); clear hx8 ht8 hk8))
  go_wp2_with fail
  go_ret
  exact Acted.of H9.out (HB.out.create x.a) (by omega)
set_option maxRecDepth 100000 in
set_option maxHeartbeats 4000000 in
theorem act3 (w0 w : World) (p q N : Nat) (ro : Nat → Role) (Z : Nat → Prop) (D R : DS) (h : Two w0 p q ro Z D R w) (hb : Bo N D R) (x : A8) (hx : AOk w0 N x) (hk : x.kind = 3) :
    Calls Try.prog 30 #[.pointer (some ⟨p, 0, none⟩), .pointer (some ⟨q, 0, none⟩), .agg #[.int .i64 x.kind, .string x.a, .string x.b, .slice x.A x.data.length x.c, .int .i64 x.n, .int .i64 x.k]] w (Acted w0 p q (N + 2 + x.data.length)) := by
  have H := hid h; have HB := hid hb; have HX := hid hx
  have d0 : ((x.kind : Int) == 0) = false := by simp [hk]
  have d1 : ((x.kind : Int) == 1) = false := by simp [hk]
  have d2 : ((x.kind : Int) == 2) = false := by simp [hk]
  have d3 : ((x.kind : Int) == 3) = true := beq_iff_eq.2 hk
  clear h hb hx hk
  go_enter Try.func30, Try.ntmps30
  go_wp2_with fail
  have b7 := blk_new w (Obj.cells #[.int .i64 x.kind, .string x.a, .string x.b, .slice x.A x.data.length x.c, .int .i64 x.n, .int .i64 x.k] 34); have k7 : Kp All w (w.alloc (Obj.cells #[.int .i64 x.kind, .string x.a, .string x.b, .slice x.A x.data.length x.c, .int .i64 x.n, .int .i64 x.k] 34)) := Kp.al _ _; obtain ⟨W7, hW7⟩ : ∃ W7, W7 = w.alloc (Obj.cells #[.int .i64 x.kind, .string x.a, .string x.b, .slice x.A x.data.length x.c, .int .i64 x.n, .int .i64 x.k] 34) := ⟨_, rfl⟩; rw [← hW7] at b7 k7 ⊢; have c7 := blk_cell b7; have B7 := hid b7; have H7 := hid (H.out.all k7.drew); have HN7 := hid (H.out.nd (Nat.le_refl _)); clear b7 hW7 k7
  go_region_held3 (fun w' => ∀ i, w'.cell? ⟨w.heap.size, i, none⟩ = (#[.int .i64 x.kind, .string x.a, .string x.b, .slice x.A x.data.length x.c, .int .i64 x.n, .int .i64 x.k] : Array Value)[i]?) (first | exact blk_cell HB9.out | exact blk_cell HB8.out | assumption) (first | (go_at_call 53; have h8' := H8.out; clear h8'; refine (qren_any Z q R x.a x.b HX.out.b _ H8.out.r (HB.out.go (by have := HX.out.c; omega))).mono ?_; rw [← HB.out.a.renErr HB.out.nd]; rintro e w9 ⟨rfl, hx9⟩; obtain ⟨Z9, ht9, hk9⟩ := H8.out.doc hx9; have H9 := hid ht9; have HB9 := hid (hk9.heap HB8.out HN7.out.2); clear hx9 ht9 hk9) | (go_at_call 27; refine (rename_any p ro D (HB.out.ok (by have := HX.out.c; omega)) x.a x.b HX.out.b _ H7.out.d).mono ?_; rintro e w8 ⟨rfl, hx8⟩; obtain ⟨ro8, ht8, hk8⟩ := H7.out.prog hx8; have H8 := hid ht8; have HB8 := hid (hk8.heap B7.out HN7.out.1); clear hx8 ht8 hk8))
  go_wp2_with fail
  go_ret
  exact Acted.of H9.out (HB.out.rename x.a x.b) (by omega)
set_option maxRecDepth 100000 in
set_option maxHeartbeats 4000000 in
theorem act4 (w0 w : World) (p q N : Nat) (ro : Nat → Role) (Z : Nat → Prop) (D R : DS) (h : Two w0 p q ro Z D R w) (hb : Bo N D R) (x : A8) (hx : AOk w0 N x) (hk : x.kind = 4) :
    Calls Try.prog 30 #[.pointer (some ⟨p, 0, none⟩), .pointer (some ⟨q, 0, none⟩), .agg #[.int .i64 x.kind, .string x.a, .string x.b, .slice x.A x.data.length x.c, .int .i64 x.n, .int .i64 x.k]] w (Acted w0 p q (N + 2 + x.data.length)) := by
  have H := hid h; have HB := hid hb; have HX := hid hx
  have d0 : ((x.kind : Int) == 0) = false := by simp [hk]
  have d1 : ((x.kind : Int) == 1) = false := by simp [hk]
  have d2 : ((x.kind : Int) == 2) = false := by simp [hk]
  have d3 : ((x.kind : Int) == 3) = false := by simp [hk]
  have d4 : ((x.kind : Int) == 4) = true := beq_iff_eq.2 hk
  clear h hb hx hk
  go_enter Try.func30, Try.ntmps30
  go_wp2_with fail
  have b7 := blk_new w (Obj.cells #[.int .i64 x.kind, .string x.a, .string x.b, .slice x.A x.data.length x.c, .int .i64 x.n, .int .i64 x.k] 34); have k7 : Kp All w (w.alloc (Obj.cells #[.int .i64 x.kind, .string x.a, .string x.b, .slice x.A x.data.length x.c, .int .i64 x.n, .int .i64 x.k] 34)) := Kp.al _ _; obtain ⟨W7, hW7⟩ : ∃ W7, W7 = w.alloc (Obj.cells #[.int .i64 x.kind, .string x.a, .string x.b, .slice x.A x.data.length x.c, .int .i64 x.n, .int .i64 x.k] 34) := ⟨_, rfl⟩; rw [← hW7] at b7 k7 ⊢; have c7 := blk_cell b7; have B7 := hid b7; have H7 := hid (H.out.all k7.drew); have HN7 := hid (H.out.nd (Nat.le_refl _)); clear b7 hW7 k7
  go_region_held3 (fun w' => ∀ i, w'.cell? ⟨w.heap.size, i, none⟩ = (#[.int .i64 x.kind, .string x.a, .string x.b, .slice x.A x.data.length x.c, .int .i64 x.n, .int .i64 x.k] : Array Value)[i]?) (first | exact blk_cell HB9.out | exact blk_cell HB8.out | assumption) (first | (go_at_call 54; have h8' := H8.out; clear h8'; refine (qrem_any Z q R x.a _ H8.out.r (HB.out.go (by have := HX.out.c; omega))).mono ?_; rw [← HB.out.a.remErr HB.out.nd]; rintro e w9 ⟨rfl, hx9⟩; obtain ⟨Z9, ht9, hk9⟩ := H8.out.doc hx9; have H9 := hid ht9; have HB9 := hid (hk9.heap HB8.out HN7.out.2); clear hx9 ht9 hk9) | (go_at_call 28; refine (remove_any p ro D (HB.out.ok (by have := HX.out.c; omega)) x.a _ H7.out.d).mono ?_; rintro e w8 ⟨rfl, hx8⟩; obtain ⟨ro8, ht8, hk8⟩ := H7.out.prog hx8; have H8 := hid ht8; have HB8 := hid (hk8.heap B7.out HN7.out.1); clear hx8 ht8 hk8))
  go_wp2_with fail
  go_ret
  exact Acted.of H9.out (HB.out.remove x.a) (by omega)
set_option maxRecDepth 100000 in
set_option maxHeartbeats 4000000 in
theorem act6 (w0 w : World) (p q N : Nat) (ro : Nat → Role) (Z : Nat → Prop) (D R : DS) (h : Two w0 p q ro Z D R w) (hb : Bo N D R) (x : A8) (hx : AOk w0 N x) (hk : x.kind = 6) :
    Calls Try.prog 30 #[.pointer (some ⟨p, 0, none⟩), .pointer (some ⟨q, 0, none⟩), .agg #[.int .i64 x.kind, .string x.a, .string x.b, .slice x.A x.data.length x.c, .int .i64 x.n, .int .i64 x.k]] w (Acted w0 p q (N + 2 + x.data.length)) := by
  have H := hid h; have HB := hid hb; have HX := hid hx
  have d0 : ((x.kind : Int) == 0) = false := by simp [hk]
  have d1 : ((x.kind : Int) == 1) = false := by simp [hk]
  have d2 : ((x.kind : Int) == 2) = false := by simp [hk]
  have d3 : ((x.kind : Int) == 3) = false := by simp [hk]
  have d4 : ((x.kind : Int) == 4) = false := by simp [hk]
  have d5 : ((x.kind : Int) == 5) = false := by simp [hk]
  have d6 : ((x.kind : Int) == 6) = true := beq_iff_eq.2 hk
  clear h hb hx hk
  go_enter Try.func30, Try.ntmps30
  go_wp2_with fail
  have b7 := blk_new w (Obj.cells #[.int .i64 x.kind, .string x.a, .string x.b, .slice x.A x.data.length x.c, .int .i64 x.n, .int .i64 x.k] 34); have k7 : Kp All w (w.alloc (Obj.cells #[.int .i64 x.kind, .string x.a, .string x.b, .slice x.A x.data.length x.c, .int .i64 x.n, .int .i64 x.k] 34)) := Kp.al _ _; obtain ⟨W7, hW7⟩ : ∃ W7, W7 = w.alloc (Obj.cells #[.int .i64 x.kind, .string x.a, .string x.b, .slice x.A x.data.length x.c, .int .i64 x.n, .int .i64 x.k] 34) := ⟨_, rfl⟩; rw [← hW7] at b7 k7 ⊢; have c7 := blk_cell b7; have B7 := hid b7; have H7 := hid (H.out.all k7.drew); have HN7 := hid (H.out.nd (Nat.le_refl _)); clear b7 hW7 k7
  go_region_held3 (fun w' => ∀ i, w'.cell? ⟨w.heap.size, i, none⟩ = (#[.int .i64 x.kind, .string x.a, .string x.b, .slice x.A x.data.length x.c, .int .i64 x.n, .int .i64 x.k] : Array Value)[i]?) (first | exact blk_cell HB9.out | exact blk_cell HB8.out | assumption) (first | (go_at_call 57; have h8' := H8.out; clear h8'; refine (qarm_any Z q R x.n x.k _ H8.out.r).mono ?_; rw [show (if R.off then (9 : Int) else 0) = armErr D from by rw [armErr, HB.out.a.of]]; rintro e w9 ⟨rfl, hx9⟩; obtain ⟨Z9, ht9, hk9⟩ := H8.out.doc hx9; have H9 := hid ht9; have HB9 := hid (hk9.heap HB8.out HN7.out.2); clear hx9 ht9 hk9) | (go_at_call 21; refine (arm_any p ro D x.n x.k HX.out.k _ H7.out.d).mono ?_; rintro e w8 ⟨rfl, hx8⟩; obtain ⟨ro8, ht8, hk8⟩ := H7.out.prog hx8; have H8 := hid ht8; have HB8 := hid (hk8.heap B7.out HN7.out.1); clear hx8 ht8 hk8))
  go_wp2_with fail
  go_ret
  exact Acted.of H9.out (HB.out.arm x.n x.k HX.out.n HX.out.k) (by omega)
set_option maxRecDepth 100000 in
set_option maxHeartbeats 4000000 in
theorem act9 (w0 w : World) (p q N : Nat) (ro : Nat → Role) (Z : Nat → Prop) (D R : DS) (h : Two w0 p q ro Z D R w) (hb : Bo N D R) (x : A8) (hx : AOk w0 N x) (hk : x.kind = 9) :
    Calls Try.prog 30 #[.pointer (some ⟨p, 0, none⟩), .pointer (some ⟨q, 0, none⟩), .agg #[.int .i64 x.kind, .string x.a, .string x.b, .slice x.A x.data.length x.c, .int .i64 x.n, .int .i64 x.k]] w (Acted w0 p q (N + 2 + x.data.length)) := by
  have H := hid h; have HB := hid hb; have HX := hid hx
  have d0 : ((x.kind : Int) == 0) = false := by simp [hk]
  have d1 : ((x.kind : Int) == 1) = false := by simp [hk]
  have d2 : ((x.kind : Int) == 2) = false := by simp [hk]
  have d3 : ((x.kind : Int) == 3) = false := by simp [hk]
  have d4 : ((x.kind : Int) == 4) = false := by simp [hk]
  have d5 : ((x.kind : Int) == 5) = false := by simp [hk]
  have d6 : ((x.kind : Int) == 6) = false := by simp [hk]
  have d7 : ((x.kind : Int) == 7) = false := by simp [hk]
  have d8 : ((x.kind : Int) == 8) = false := by simp [hk]
  have d9 : ((x.kind : Int) == 9) = true := beq_iff_eq.2 hk
  clear h hb hx hk
  go_enter Try.func30, Try.ntmps30
  go_wp2_with fail
  have b7 := blk_new w (Obj.cells #[.int .i64 x.kind, .string x.a, .string x.b, .slice x.A x.data.length x.c, .int .i64 x.n, .int .i64 x.k] 34); have k7 : Kp All w (w.alloc (Obj.cells #[.int .i64 x.kind, .string x.a, .string x.b, .slice x.A x.data.length x.c, .int .i64 x.n, .int .i64 x.k] 34)) := Kp.al _ _; obtain ⟨W7, hW7⟩ : ∃ W7, W7 = w.alloc (Obj.cells #[.int .i64 x.kind, .string x.a, .string x.b, .slice x.A x.data.length x.c, .int .i64 x.n, .int .i64 x.k] 34) := ⟨_, rfl⟩; rw [← hW7] at b7 k7 ⊢; have c7 := blk_cell b7; have B7 := hid b7; have H7 := hid (H.out.all k7.drew); have HN7 := hid (H.out.nd (Nat.le_refl _)); clear b7 hW7 k7
  go_region_held3 (fun w' => ∀ i, w'.cell? ⟨w.heap.size, i, none⟩ = (#[.int .i64 x.kind, .string x.a, .string x.b, .slice x.A x.data.length x.c, .int .i64 x.n, .int .i64 x.k] : Array Value)[i]?) (first | exact blk_cell HB9.out | exact blk_cell HB8.out | assumption) (first | (go_at_call 60; have h8' := H8.out; clear h8'; refine (qspoil_any Z q R x.a x.n x.k _ H8.out.r (HB.out.go (by have := HX.out.c; omega)).toGd).mono ?_; rw [← HB.out.a.spoErr HB.out.nd]; rintro e w9 ⟨rfl, hx9⟩; obtain ⟨Z9, ht9, hk9⟩ := H8.out.doc hx9; have H9 := hid ht9; have HB9 := hid (hk9.heap HB8.out HN7.out.2); clear hx9 ht9 hk9) | (go_at_call 32; refine (spoil_any p ro D x.a x.n x.k _ H7.out.d).mono ?_; rintro e w8 ⟨rfl, hx8⟩; obtain ⟨ro8, ht8, hk8⟩ := H7.out.prog hx8; have H8 := hid ht8; have HB8 := hid (hk8.heap B7.out HN7.out.1); clear hx8 ht8 hk8))
  go_wp2_with fail
  go_ret
  exact Acted.of H9.out (HB.out.spoil x.a x.n x.k) (by omega)
end Go.Proofs.Ytdlbccjimdghkaa
