/- An act on both disks: Sync, Crash, Start, Read, Append and others: walked once each. No condition but that the disks lie and are alike. -/
import Derived.Test.YtdlbccjimdghkaaJB
namespace Go.Proofs.Ytdlbccjimdghkaa
open Go.RowKit
set_option linter.unusedVariables false
set_option linter.unusedSimpArgs false
theorem dapp_at (p : Nat) (ro : Nat → Role) (D : DS) (hok : D.Ok) (n : Nm) (b : By) (l : Nat) (hl : b.length = l) (A : Option Addr) (c : Nat) (w : World) (h : Dk w p ro D)
    (hb : Foot (fun k => ro k = .none) (Sl A l c 1 (u8s b)) w) (hbl : l ≤ 549755813888) :
    Calls Try.prog 17 #[.pointer (some ⟨p, 0, none⟩), .string n, .slice A l c] w (Op1 w ro p (appErr D n b) (appD D n b)) := by
  subst hl
  exact append_any p ro D hok n b A c w h hb hbl
set_option maxRecDepth 100000 in
set_option maxHeartbeats 4000000 in
theorem act2 (w0 w : World) (p q N : Nat) (ro : Nat → Role) (Z : Nat → Prop) (D R : DS) (h : Two w0 p q ro Z D R w) (hb : Bo N D R) (x : A8) (hx : AOk w0 N x) (hk : x.kind = 2) :
    Calls Try.prog 30 #[.pointer (some ⟨p, 0, none⟩), .pointer (some ⟨q, 0, none⟩), .agg #[.int .i64 x.kind, .string x.a, .string x.b, .slice x.A x.data.length x.c, .int .i64 x.n, .int .i64 x.k]] w (Acted w0 p q (N + 2 + x.data.length)) := by
  have H := hid h; have HB := hid hb; have HX := hid hx
  have d0 : ((x.kind : Int) == 0) = false := by simp [hk]
  have d1 : ((x.kind : Int) == 1) = false := by simp [hk]
  have d2 : ((x.kind : Int) == 2) = true := beq_iff_eq.2 hk
  have H7 := hid (h.all (Kp.al w (Obj.cells #[.int .i64 x.kind, .string x.a, .string x.b, .slice x.A x.data.length x.c, .int .i64 x.n, .int .i64 x.k] 34))); have B7 := hid (blk_new w (Obj.cells #[.int .i64 x.kind, .string x.a, .string x.b, .slice x.A x.data.length x.c, .int .i64 x.n, .int .i64 x.k] 34)); have HN7 := hid (h.nd (Nat.le_refl _))
  clear h hb hx hk
  go_enter Try.func30, Try.ntmps30
  go_wp2_with fail
  refine (sync_any p ro D (HB.out.ok (by have := HX.out.c; omega)) _ H7.out.d).mono ?_
  rintro e w8 ⟨rfl, hx8⟩
  obtain ⟨ro8, ht8, hk8⟩ := H7.out.prog hx8; have H8 := hid ht8; have HB8 := hid (hk8.heap B7.out HN7.out.1); clear hx8 ht8 hk8
  have c8 := blk_cell HB8.out
  go_wp2_with fail
  refine (qsync_any Z q R _ H8.out.r (HB.out.go (by have := HX.out.c; omega)) (by have := HB.out.b.sz; have := HX.out.c; omega)).mono ?_
  rw [← HB.out.a.syncErr]; rintro e w9 ⟨rfl, hx9⟩
  obtain ⟨Z9, ht9, hk9⟩ := H8.out.doc hx9; have H9 := hid ht9; have HB9 := hid (hk9.heap HB8.out HN7.out.2); clear hx9 ht9 hk9
  go_wp2_with fail
  go_ret
  exact Acted.of H9.out (HB.out.sync) (by omega)
set_option maxRecDepth 100000 in
set_option maxHeartbeats 4000000 in
theorem act7 (w0 w : World) (p q N : Nat) (ro : Nat → Role) (Z : Nat → Prop) (D R : DS) (h : Two w0 p q ro Z D R w) (hb : Bo N D R) (x : A8) (hx : AOk w0 N x) (hk : x.kind = 7) :
    Calls Try.prog 30 #[.pointer (some ⟨p, 0, none⟩), .pointer (some ⟨q, 0, none⟩), .agg #[.int .i64 x.kind, .string x.a, .string x.b, .slice x.A x.data.length x.c, .int .i64 x.n, .int .i64 x.k]] w (Acted w0 p q (N + 2 + x.data.length)) := by
  have H := hid h; have HB := hid hb; have HX := hid hx
  have d0 : ((x.kind : Int) == 0) = false := by simp [hk]
  have d1 : ((x.kind : Int) == 1) = false := by simp [hk]
  have d2 : ((x.kind : Int) == 2) = false := by simp [hk]
  have d3 : ((x.kind : Int) == 3) = false := by simp [hk]
  have d4 : ((x.kind : Int) == 4) = false := by simp [hk]
  have d5 : ((x.kind : Int) == 5) = false := by simp [hk]
  have d6 : ((x.kind : Int) == 6) = false := by simp [hk]
  have d7 : ((x.kind : Int) == 7) = true := beq_iff_eq.2 hk
  have H7 := hid (h.all (Kp.al w (Obj.cells #[.int .i64 x.kind, .string x.a, .string x.b, .slice x.A x.data.length x.c, .int .i64 x.n, .int .i64 x.k] 34))); have B7 := hid (blk_new w (Obj.cells #[.int .i64 x.kind, .string x.a, .string x.b, .slice x.A x.data.length x.c, .int .i64 x.n, .int .i64 x.k] 34)); have HN7 := hid (h.nd (Nat.le_refl _))
  clear h hb hx hk
  go_enter Try.func30, Try.ntmps30
  go_wp2_with fail
  refine (crash_any p ro D x.n HX.out.n _ H7.out.d).mono ?_
  rintro e w8 ⟨rfl, hx8⟩
  obtain ⟨ro8, ht8, hk8⟩ := H7.out.prog hx8; have H8 := hid ht8; have HB8 := hid (hk8.heap B7.out HN7.out.1); clear hx8 ht8 hk8
  have c8 := blk_cell HB8.out
  go_wp2_with fail
  refine (qcrash_any Z q R x.n HX.out.n _ H8.out.r (HB.out.go (by have := HX.out.c; omega)).toGd).mono ?_
  rintro e w9 ⟨rfl, hx9⟩
  obtain ⟨Z9, ht9, hk9⟩ := H8.out.doc hx9; have H9 := hid ht9; have HB9 := hid (hk9.heap HB8.out HN7.out.2); clear hx9 ht9 hk9
  go_wp2_with fail
  go_ret
  exact Acted.of H9.out (HB.out.crash x.n) (by omega)
set_option maxRecDepth 100000 in
set_option maxHeartbeats 4000000 in
theorem act8 (w0 w : World) (p q N : Nat) (ro : Nat → Role) (Z : Nat → Prop) (D R : DS) (h : Two w0 p q ro Z D R w) (hb : Bo N D R) (x : A8) (hx : AOk w0 N x) (hk : x.kind = 8) :
    Calls Try.prog 30 #[.pointer (some ⟨p, 0, none⟩), .pointer (some ⟨q, 0, none⟩), .agg #[.int .i64 x.kind, .string x.a, .string x.b, .slice x.A x.data.length x.c, .int .i64 x.n, .int .i64 x.k]] w (Acted w0 p q (N + 2 + x.data.length)) := by
  have H := hid h; have HB := hid hb; have HX := hid hx
  have d0 : ((x.kind : Int) == 0) = false := by simp [hk]
  have d1 : ((x.kind : Int) == 1) = false := by simp [hk]
  have d2 : ((x.kind : Int) == 2) = false := by simp [hk]
  have d3 : ((x.kind : Int) == 3) = false := by simp [hk]
  have d4 : ((x.kind : Int) == 4) = false := by simp [hk]
  have d5 : ((x.kind : Int) == 5) = false := by simp [hk]
  have d6 : ((x.kind : Int) == 6) = false := by simp [hk]
  have d7 : ((x.kind : Int) == 7) = false := by simp [hk]
  have d8 : ((x.kind : Int) == 8) = true := beq_iff_eq.2 hk
  have H7 := hid (h.all (Kp.al w (Obj.cells #[.int .i64 x.kind, .string x.a, .string x.b, .slice x.A x.data.length x.c, .int .i64 x.n, .int .i64 x.k] 34))); have B7 := hid (blk_new w (Obj.cells #[.int .i64 x.kind, .string x.a, .string x.b, .slice x.A x.data.length x.c, .int .i64 x.n, .int .i64 x.k] 34)); have HN7 := hid (h.nd (Nat.le_refl _))
  clear h hb hx hk
  go_enter Try.func30, Try.ntmps30
  go_wp2_with fail
  refine (start_any p ro D _ H7.out.d).mono ?_
  rintro e w8 ⟨rfl, hx8⟩
  obtain ⟨ro8, ht8, hk8⟩ := H7.out.prog hx8; have H8 := hid ht8; have HB8 := hid (hk8.heap B7.out HN7.out.1); clear hx8 ht8 hk8
  have c8 := blk_cell HB8.out
  go_wp2_with fail
  refine (qstart_any Z q R _ H8.out.r).mono ?_
  rintro e w9 ⟨rfl, hx9⟩
  obtain ⟨Z9, ht9, hk9⟩ := H8.out.doc hx9; have H9 := hid ht9; have HB9 := hid (hk9.heap HB8.out HN7.out.2); clear hx9 ht9 hk9
  go_wp2_with fail
  go_ret
  exact Acted.of H9.out (HB.out.start) (by omega)
set_option maxRecDepth 100000 in
set_option maxHeartbeats 4000000 in
theorem act5 (w0 w : World) (p q N : Nat) (ro : Nat → Role) (Z : Nat → Prop) (D R : DS) (h : Two w0 p q ro Z D R w) (hb : Bo N D R) (x : A8) (hx : AOk w0 N x) (hk : x.kind = 5) :
    Calls Try.prog 30 #[.pointer (some ⟨p, 0, none⟩), .pointer (some ⟨q, 0, none⟩), .agg #[.int .i64 x.kind, .string x.a, .string x.b, .slice x.A x.data.length x.c, .int .i64 x.n, .int .i64 x.k]] w (Acted w0 p q (N + 2 + x.data.length)) := by
  have H := hid h; have HB := hid hb; have HX := hid hx
  have d0 : ((x.kind : Int) == 0) = false := by simp [hk]
  have d1 : ((x.kind : Int) == 1) = false := by simp [hk]
  have d2 : ((x.kind : Int) == 2) = false := by simp [hk]
  have d3 : ((x.kind : Int) == 3) = false := by simp [hk]
  have d4 : ((x.kind : Int) == 4) = false := by simp [hk]
  have d5 : ((x.kind : Int) == 5) = true := beq_iff_eq.2 hk
  have H7 := hid (h.all (Kp.al w (Obj.cells #[.int .i64 x.kind, .string x.a, .string x.b, .slice x.A x.data.length x.c, .int .i64 x.n, .int .i64 x.k] 34))); have B7 := hid (blk_new w (Obj.cells #[.int .i64 x.kind, .string x.a, .string x.b, .slice x.A x.data.length x.c, .int .i64 x.n, .int .i64 x.k] 34)); have HN7 := hid (h.nd (Nat.le_refl _))
  clear h hb hx hk
  go_enter Try.func30, Try.ntmps30
  go_wp2_with fail
  refine (read_any p ro D x.a _ H7.out.d).mono ?_
  rintro e w8 ⟨v8, rfl, ho8, hk8⟩
  have H8 := hid (H7.out.all hk8)
  have hB8 := hk8.heap B7.out trivial
  have c8 := blk_cell hB8
  have HB8 := hid hB8
  have HO8 := hid ho8
  clear ho8 hk8 hB8
  go_wp2_with fail
  refine (qread_any Z q R x.a _ H8.out.r (HB.out.go (by have := HX.out.c; omega)).toGd).mono ?_
  rw [← (HB.out.a.read HB.out.nd x.a).1, ← (HB.out.a.read HB.out.nd x.a).2]
  rintro e w9 ⟨v9, rfl, ho9, hk9⟩
  have H9 := hid (H8.out.all hk9)
  obtain ⟨A8, c8', rfl⟩ := own_shape HO8.out
  obtain ⟨A9, c9', rfl⟩ := own_shape ho9
  have hs8 := (own_sl (own_kept HO8.out hk9 (fun _ _ => trivial)) (Nat.le_refl _)).1
  have hs9 := (own_sl ho9 (Nat.le_refl _)).1
  rw [List.take_of_length_le (by simp)] at hs8 hs9
  have HS8 := hid hs8; have HS9 := hid hs9
  clear hs8 hs9 ho9 hk9 c8
  obtain ⟨ln, hln⟩ : ∃ ln, (readB D x.a).length = ln := ⟨_, rfl⟩
  have HLN := hid hln
  have HO8' := hid HO8.out
  rw [hln] at HS8 HS9 ⊢
  clear hln HO8 HO8'
  go_wp2_with fail
  refine (same_eq A8 A9 ln c8' c9' _ HLN.out _ HS8.out HS9.out).mono ?_
  rintro e w2 ⟨rfl, rfl⟩
  go_wp2_with fail
  go_ret
  exact Acted.of H9.out HB.out (by omega)
set_option maxRecDepth 100000 in
set_option maxHeartbeats 4000000 in
theorem act1 (w0 w : World) (p q N : Nat) (ro : Nat → Role) (Z : Nat → Prop) (D R : DS) (h : Two w0 p q ro Z D R w) (hb : Bo N D R) (x : A8) (hx : AOk w0 N x) (hk : x.kind = 1) :
    Calls Try.prog 30 #[.pointer (some ⟨p, 0, none⟩), .pointer (some ⟨q, 0, none⟩), .agg #[.int .i64 x.kind, .string x.a, .string x.b, .slice x.A x.data.length x.c, .int .i64 x.n, .int .i64 x.k]] w (Acted w0 p q (N + 2 + x.data.length)) := by
  have H := hid h; have HB := hid hb; have HX := hid hx
  have d0 : ((x.kind : Int) == 0) = false := by simp [hk]
  have d1 : ((x.kind : Int) == 1) = true := beq_iff_eq.2 hk
  obtain ⟨l, hl⟩ : ∃ l, x.data.length = l := ⟨_, rfl⟩
  have HL := hid hl
  rw [hl]
  have hl9 : l ≤ 100000 := by have := hx.c; omega
  have HD := hid hx.d
  have hd := hx.d
  rw [hl] at hd
  have HD := hid hd
  have H7 := hid (h.all (Kp.al w (Obj.cells #[.int .i64 x.kind, .string x.a, .string x.b, .slice x.A l x.c, .int .i64 x.n, .int .i64 x.k] 34))); have B7 := hid (blk_new w (Obj.cells #[.int .i64 x.kind, .string x.a, .string x.b, .slice x.A l x.c, .int .i64 x.n, .int .i64 x.k] 34)); have HN7 := hid (h.nd (Nat.le_refl _)); have HN8 := hid (h.nd (Nat.le_succ w.heap.size))
  clear h hb hx hk hl hd
  go_enter Try.func30, Try.ntmps30
  go_wp2_with fail
  refine (lend_any x.A l x.c x.data HL.out hl9 _ (fun u hu => HD.out u (H7.out.k.trans hu))).mono ?_
  rintro e w6 ⟨rfl, hg6, hk6⟩
  rw [World.size_alloc] at hg6 ⊢
  rw [HL.out] at hg6
  have H6 := hid (H7.out.all hk6.drew); have B6 := hid (hk6.heap B7.out trivial); have HG6 := hid hg6
  have c6 := blk_cell B6.out
  clear hg6 hk6 B7 H7
  go_wp2_with fail
  go_region_held3 (fun w' => ∀ i, w'.cell? ⟨w.heap.size, i, none⟩ = (#[.int .i64 x.kind, .string x.a, .string x.b, .slice x.A l x.c, .int .i64 x.n, .int .i64 x.k] : Array Value)[i]?) (first | exact blk_cell HB10.out | exact blk_cell HB9.out | exact blk_cell HB8.out | assumption) (first | (go_at_call 51; have hg9' := HG9.out; clear hg9'; refine (kept_any x.A l x.c (w.heap.size + 1) x.data HL.out hl9 _ (HD.out _ H9.out.k) HG9.out).mono ?_; rintro e w10 ⟨rfl, hk10⟩; have H10 := hid (H9.out.all hk10); have HB10 := hid (hk10.heap HB9.out trivial); clear hk10) | (go_at_call 50; have h8' := H8.out; clear h8'; refine (qapp_any Z q R x.a x.data x.A l x.c HL.out (by omega) _ H8.out.r (HB.out.go (by have := HX.out.c; omega)) (by have := H6.out.bl; rw [HB.out.a.bl] at this; exact this) (H8.out.footR HD.out)).mono ?_; rw [← HB.out.a.appErr HB.out.nd]; rintro e w9 ⟨rfl, hx9⟩; obtain ⟨Z9, ht9, hk9⟩ := H8.out.doc hx9; have H9 := hid ht9; have HB9 := hid (hk9.heap HB8.out HN7.out.2); have HG9 := hid (hk9.heap HG8.out HN8.out.2); clear hx9 ht9 hk9) | (go_at_call 17; refine (dapp_at p ro D (HB.out.ok (by have := HX.out.c; omega)) x.a x.data l HL.out (some ⟨w.heap.size + 1, 1, none⟩) (l + 1) _ H6.out.d (fun u hu => (lcells_rd HL.out (hu.heap HG6.out HN8.out.1)).2.2) (by omega)).mono ?_; rintro e w8 ⟨rfl, hx8⟩; obtain ⟨ro8, ht8, hk8⟩ := H6.out.prog hx8; have H8 := hid ht8; have HB8 := hid (hk8.heap B6.out HN7.out.1); have HG8 := hid (hk8.heap HG6.out HN8.out.1); clear hx8 ht8 hk8))
  go_wp2_with fail
  go_ret
  have hb := HB.out.append x.a x.data
  rw [HL.out] at hb
  exact Acted.of H10.out hb (Nat.le_refl _)
set_option maxRecDepth 100000 in
set_option maxHeartbeats 4000000 in
theorem act_else (w0 w : World) (p q N : Nat) (ro : Nat → Role) (Z : Nat → Prop) (D R : DS) (h : Two w0 p q ro Z D R w) (hb : Bo N D R) (x : A8) (hk : x.kind < 0 ∨ 9 < x.kind) :
    Calls Try.prog 30 #[.pointer (some ⟨p, 0, none⟩), .pointer (some ⟨q, 0, none⟩), .agg #[.int .i64 x.kind, .string x.a, .string x.b, .slice x.A x.data.length x.c, .int .i64 x.n, .int .i64 x.k]] w (Acted w0 p q (N + 2 + x.data.length)) := by
  have H := hid h; have HB := hid hb
  have d0 : ((x.kind : Int) == 0) = false := beq_eq_false_iff_ne.2 (by omega)
  have d1 : ((x.kind : Int) == 1) = false := beq_eq_false_iff_ne.2 (by omega)
  have d2 : ((x.kind : Int) == 2) = false := beq_eq_false_iff_ne.2 (by omega)
  have d3 : ((x.kind : Int) == 3) = false := beq_eq_false_iff_ne.2 (by omega)
  have d4 : ((x.kind : Int) == 4) = false := beq_eq_false_iff_ne.2 (by omega)
  have d5 : ((x.kind : Int) == 5) = false := beq_eq_false_iff_ne.2 (by omega)
  have d6 : ((x.kind : Int) == 6) = false := beq_eq_false_iff_ne.2 (by omega)
  have d7 : ((x.kind : Int) == 7) = false := beq_eq_false_iff_ne.2 (by omega)
  have d8 : ((x.kind : Int) == 8) = false := beq_eq_false_iff_ne.2 (by omega)
  have d9 : ((x.kind : Int) == 9) = false := beq_eq_false_iff_ne.2 (by omega)
  have H7 := hid (h.all (Kp.al w (Obj.cells #[.int .i64 x.kind, .string x.a, .string x.b, .slice x.A x.data.length x.c, .int .i64 x.n, .int .i64 x.k] 34))); have B7 := hid (blk_new w (Obj.cells #[.int .i64 x.kind, .string x.a, .string x.b, .slice x.A x.data.length x.c, .int .i64 x.n, .int .i64 x.k] 34))
  clear h hb hk
  go_enter Try.func30, Try.ntmps30
  go_wp2_with fail
  go_ret
  exact Acted.of H7.out HB.out (by omega)
theorem act_any (w0 w : World) (p q N : Nat) (ro : Nat → Role) (Z : Nat → Prop) (D R : DS) (h : Two w0 p q ro Z D R w) (hb : Bo N D R) (x : A8) (hx : AOk w0 N x) :
    Calls Try.prog 30 #[.pointer (some ⟨p, 0, none⟩), .pointer (some ⟨q, 0, none⟩), .agg #[.int .i64 x.kind, .string x.a, .string x.b, .slice x.A x.data.length x.c, .int .i64 x.n, .int .i64 x.k]] w (Acted w0 p q (N + 2 + x.data.length)) := by
  by_cases h0 : x.kind = 0
  · exact act0 w0 w p q N ro Z D R h hb x hx h0
  by_cases h1 : x.kind = 1
  · exact act1 w0 w p q N ro Z D R h hb x hx h1
  by_cases h2 : x.kind = 2
  · exact act2 w0 w p q N ro Z D R h hb x hx h2
  by_cases h3 : x.kind = 3
  · exact act3 w0 w p q N ro Z D R h hb x hx h3
  by_cases h4 : x.kind = 4
  · exact act4 w0 w p q N ro Z D R h hb x hx h4
  by_cases h5 : x.kind = 5
  · exact act5 w0 w p q N ro Z D R h hb x hx h5
  by_cases h6 : x.kind = 6
  · exact act6 w0 w p q N ro Z D R h hb x hx h6
  by_cases h7 : x.kind = 7
  · exact act7 w0 w p q N ro Z D R h hb x hx h7
  by_cases h8 : x.kind = 8
  · exact act8 w0 w p q N ro Z D R h hb x hx h8
  by_cases h9 : x.kind = 9
  · exact act9 w0 w p q N ro Z D R h hb x hx h9
  exact act_else w0 w p q N ro Z D R h hb x (by omega)
end Go.Proofs.Ytdlbccjimdghkaa
