/- SipHash fed by bytes, one by one: plain words, with no program in sight. No condition. The document's SipHash: its rotl, Round and block walked. No condition but that the numbers are of their kinds. The document's SipHash: its block, Sum and Split walked. No condition but that the numbers are of their kinds, and the text is not too long. The document's words of eight slots: Get, Set, Match, Free, First walked. No condition but that the numbers are of their kinds. -/
import Derived.Test.YtodledidabdkaaaGreatDoorM2
import Derived.Test.YtodledidabdkaaaGreatDoorM3
import Derived.Test.YtodledidabdkaaaGreatDoorM1
set_option linter.unusedVariables false
set_option linter.unusedSimpArgs false
namespace Go.Proofs.YtodledidabdkaaaGreatDoor.V
set_option linter.unusedVariables false
set_option linter.unusedSimpArgs false
def feedL : V4 → Nat → Nat → List UInt8 → V4 × Nat
  | v, m, _, [] => (v, m)
  | v, m, j, b :: r => if j = 7 then feedL (takeP v (m ||| b.toNat * 2 ^ (8 * j))) 0 0 r else feedL v (m ||| b.toNat * 2 ^ (8 * j)) (j + 1) r
theorem word_snoc (p : List UInt8) (b : UInt8) : wordP (p ++ [b]) = wordP p ||| b.toNat * 2 ^ (8 * p.length) := by
  have h : ∀ (l : List Nat) (x : Nat), wd (l ++ [x]) = wd l + x * 256 ^ l.length := by
    intro l x
    induction l with
    | nil => simp [wd]
    | cons a l ih =>
      rw [List.cons_append, wd, wd, ih, List.length_cons, Nat.pow_succ]
      rw [Nat.mul_add, Nat.add_assoc, show 256 * (x * 256 ^ l.length) = x * (256 ^ l.length * 256) from by rw [Nat.mul_comm 256, Nat.mul_assoc]]
  unfold wordP natsB
  rw [List.map_append, List.map_cons, List.map_nil, h, List.length_map, show (256 : Nat) = 2 ^ 8 from rfl, ← Nat.pow_mul]
  have hl := wd_lt (natsB p) (bt_natsB p)
  unfold natsB at hl
  rw [List.length_map, show (256 : Nat) = 2 ^ 8 from rfl, ← Nat.pow_mul] at hl
  rw [Nat.or_comm, Nat.mul_comm b.toNat, ← Nat.two_pow_add_eq_or_of_lt hl, Nat.add_comm]
theorem feed_eat : ∀ (l : List UInt8) (v : V4) (p : List UInt8), p.length < 8 → feedL v (wordP p) p.length l = ((eatP v (p ++ l)).1, wordP (eatP v (p ++ l)).2)
  | [], v, p, hp => by
    rw [feedL, List.append_nil, eatP, dif_neg (by omega)]
  | b :: r, v, p, hp => by
    rw [feedL, ← word_snoc]
    by_cases h7 : p.length = 7
    · rw [if_pos h7]
      have h1 := feed_eat r (takeP v (wordP (p ++ [b]))) [] (by simp)
      rw [show wordP [] = 0 from rfl, List.length_nil, List.nil_append] at h1
      have h2 : eatP v (p ++ b :: r) = eatP (takeP v (wordP (p ++ [b]))) r := by
        rw [eatP, dif_pos (by simp; omega)]
        have e : p ++ b :: r = (p ++ [b]) ++ r := by simp
        have hl : (p ++ [b]).length = 8 := by simp [h7]
        rw [e, List.take_left' hl, List.drop_left' hl]
      rw [h1, h2]
    · rw [if_neg h7]
      have h1 := feed_eat r v (p ++ [b]) (by simp; omega)
      rw [List.length_append, List.length_singleton] at h1
      rw [h1, List.append_assoc]
      rfl
theorem feed_sip (k0 k1 : Nat) (s : ByteArray) : sipP k0 k1 s = (let y := feedL (beginP k0 k1) 0 0 s.data.toList; endP (takeP y.1 (y.2 ||| (s.data.toList.length % 256) * 2 ^ 56))) := by
  have h := feed_eat s.data.toList (beginP k0 k1) [] (by simp)
  rw [show wordP [] = 0 from rfl, List.length_nil, List.nil_append] at h
  rw [h]
  unfold sipP lastM
  simp only
  rw [show s.data.toList.length * 72057594037927936 % 18446744073709551616 = s.data.toList.length % 256 * 2 ^ 56 from by omega]
end Go.Proofs.YtodledidabdkaaaGreatDoor.V

namespace Go.Proofs.YtodledidabdkaaaGreatDoor
open Go.RowKit V
set_option linter.unusedVariables false
set_option linter.unusedSimpArgs false
theorem cutW {P : Program} {c : Code} {Q : Exit → Act → World → Prop} {a : Act} {W : World} (F : World → Prop) (h : F W) (k : ∀ U, F U → c.wp P Q a U) : c.wp P Q a W := k W h
set_option maxRecDepth 100000 in
theorem r2rotl_any (x r : Nat) (hx : x < 18446744073709551616) (hr : r = 13 ∨ r = 16 ∨ r = 17 ∨ r = 21 ∨ r = 32) (w : World) :
    Calls Tryz.prog 132 #[.int .u64 x, .int .u64 r] w fun e w' => e = .returned (.int .u64 (rl x r)) ∧ w' = w := by
  have HB := hid (fun a b => rl_bits x r hx a b)
  obtain rfl | rfl | rfl | rfl | rfl := hr
  all_goals
    go_enter Tryz.func132, Tryz.ntmps132
    go_wp2
    go_ret
    refine ⟨congrArg (fun z => Ending.returned (.int .u64 z)) (HB.out _ _ ?_ ?_), rfl⟩
    · first | rfl | (rw [show ∀ n : Int, IntKind.u64.wrap n = n % 18446744073709551616 from fun _ => rfl]; simp only [Nat.reducePow, Nat.reduceSub]; omega)
    · first | rfl | (simp only [Nat.reducePow, Nat.reduceSub]; omega)
theorem add64 (a b : Nat) : IntKind.u64.wrap ((a : Int) + (b : Int)) = ((halfA a b : Nat) : Int) := by
  rw [show ((a : Int) + (b : Int)) = ((a + b : Nat) : Int) from by omega, wrapn]; rfl
theorem xor64 (a b r : Nat) (hb : b < 18446744073709551616) : bits .xor .u64 ((rl b r : Nat) : Int) ((halfA a b : Nat) : Int) = ((halfB a b r : Nat) : Int) := u64_xor_nat _ _ (rl_lt hb) (halfA_lt a b)
set_option maxRecDepth 100000 in
set_option maxHeartbeats 2000000 in
theorem r2round_any (v : V4) (hv : v.ok) (w : World) :
    Calls Tryz.prog 106 #[.agg (vc v)] w fun e w' => e = .returned (.agg (vc (roundP v))) ∧ Kp All w w' := by
  obtain ⟨a, b, c, d⟩ := v
  obtain ⟨ha, hb, hc, hd⟩ := hv
  simp only at ha hb hc hd
  have b1 := halfB_lt (a := a) (r := 13) hb
  have a1 := halfA_lt a b
  have a2 := rl_lt (r := 32) a1
  have c1 := halfA_lt c d
  have d1 := halfB_lt (a := c) (r := 16) hd
  have a3 := halfA_lt (rl (halfA a b) 32) (halfB c d 16)
  have d2 := halfB_lt (a := rl (halfA a b) 32) (r := 21) d1
  have c2 := halfA_lt (halfA c d) (halfB a b 13)
  have b2 := halfB_lt (a := halfA c d) (r := 17) b1
  have c3 := rl_lt (r := 32) c2
  have HR : roundP ⟨a, b, c, d⟩ = ⟨halfA (rl (halfA a b) 32) (halfB c d 16), halfB (halfA c d) (halfB a b 13) 17, rl (halfA (halfA c d) (halfB a b 13)) 32, halfB (rl (halfA a b) 32) (halfB c d 16) 21⟩ := rfl
  rw [HR]
  have r1 := hid (fun w => r2rotl_any b 13 hb (by simp) w)
  have r2 := hid (fun w => r2rotl_any (halfA a b) 32 a1 (by simp) w)
  have r3 := hid (fun w => r2rotl_any d 16 hd (by simp) w)
  have r4 := hid (fun w => r2rotl_any (halfB c d 16) 21 d1 (by simp) w)
  have r5 := hid (fun w => r2rotl_any (halfB a b 13) 17 b1 (by simp) w)
  have r6 := hid (fun w => r2rotl_any (halfA (halfA c d) (halfB a b 13)) 32 c2 (by simp) w)
  have s1 := add64 a b
  have s2 := add64 c d
  have s3 := add64 (rl (halfA a b) 32) (halfB c d 16)
  have s4 := add64 (halfA c d) (halfB a b 13)
  have x1 := xor64 a b 13 hb
  have x2 := xor64 c d 16 hd
  have x3 := xor64 (rl (halfA a b) 32) (halfB c d 16) 21 d1
  have x4 := xor64 (halfA c d) (halfB a b 13) 17 b1
  clear HR
  generalize halfA (rl (halfA a b) 32) (halfB c d 16) = A3 at *
  generalize halfB (rl (halfA a b) 32) (halfB c d 16) 21 = D2 at *
  generalize rl (halfB c d 16) 21 = E2 at *
  generalize halfB (halfA c d) (halfB a b 13) 17 = B2 at *
  generalize rl (halfB a b 13) 17 = E3 at *
  generalize rl (halfA (halfA c d) (halfB a b 13)) 32 = C3 at *
  generalize halfA (halfA c d) (halfB a b 13) = C2 at *
  generalize halfB c d 16 = D1 at *
  generalize rl d 16 = E1 at *
  generalize halfA c d = C1 at *
  generalize rl (halfA a b) 32 = A2 at *
  generalize halfB a b 13 = B1 at *
  generalize rl b 13 = E0 at *
  generalize halfA a b = A1 at *
  unfold vc
  simp only
  go_enter Tryz.func106, Tryz.ntmps106
  go_wp2_with fail
  refine cutW (fun U => U.heap[w.heap.size]? = some (.cells #[.int .u64 (A1 : Nat), .int .u64 (b : Nat), .int .u64 (c : Nat), .int .u64 (d : Nat)] 134 (0, 0)) ∧ U.heap[w.heap.size + 1]? = some (.cells #[.int .u64 0, .int .u64 0, .int .u64 0, .int .u64 0] 134 (0, 0)) ∧ Kp All w U) ⟨blk_alloc (blk_new w _) _, by have h := blk_new (w.alloc (.cells #[.int .u64 (A1 : Nat), .int .u64 (b : Nat), .int .u64 (c : Nat), .int .u64 (d : Nat)] 134)) (.cells #[.int .u64 0, .int .u64 0, .int .u64 0, .int .u64 0] 134); rwa [World.size_alloc] at h, (Kp.al _ _).alloc _⟩ ?_
  rintro U ⟨hb, hr, hk⟩
  have cB := blk_cell hb; have fB := blk_free hb
  have HB := hid hb; have HRR := hid hr; have HK := hid hk
  clear hb hr hk
  refine RegionLast.wp_region_end_quiet (by kernel_rfl) (by kernel_rfl) (by kernel_rfl) ?_; simp only [List.length_cons, List.length_nil, Nat.zero_add, Nat.reduceAdd, Nat.reduceSub, List.take_succ_cons, List.take_zero, List.drop_succ_cons, List.drop_zero]
  repeat (go_big_quiet_step ((go_at_call 132; refine (r1.out _).mono ?_; rintro e w4 ⟨rfl, rfl⟩; exact ⟨rfl, _, rfl⟩)))
  refine wpQuiet_nil ?_; intro _ hw'; obtain ⟨nq, hw''⟩ := hw'; subst hw''
  clear cB fB
  have cB := blk_cell HB.out; have fB := blk_free HB.out
  go_wp2_with fail
  refine (r2.out _).mono ?_
  rintro e w2 ⟨rfl, hw⟩
  subst hw
  go_wp2_with fail
  refine cutW (fun U => U.heap[w.heap.size]? = some (.cells #[.int .u64 (A2 : Nat), .int .u64 (B1 : Nat), .int .u64 (C1 : Nat), .int .u64 (d : Nat)] 134 (0, 0)) ∧ U.heap[w.heap.size + 1]? = some (.cells #[.int .u64 0, .int .u64 0, .int .u64 0, .int .u64 0] 134 (0, 0)) ∧ Kp All w U) ⟨blk_set (blk_set (blk_set HB.out 1 _) 0 _) 2 _, blk_far (blk_far (blk_far HRR.out (by simp) _) (by simp) _) (by simp) _, ((((HK.out.drewN nq).setNew (Nat.le_refl _) _).setNew (Nat.le_refl _) _).setNew (Nat.le_refl _) _)⟩ ?_
  rintro U ⟨hb, hr, hk⟩
  have cB := blk_cell hb; have fB := blk_free hb
  have HB := hid hb; have HRR := hid hr; have HK := hid hk
  clear hb hr hk
  refine RegionLast.wp_region_end_quiet (by kernel_rfl) (by kernel_rfl) (by kernel_rfl) ?_; simp only [List.length_cons, List.length_nil, Nat.zero_add, Nat.reduceAdd, Nat.reduceSub, List.take_succ_cons, List.take_zero, List.drop_succ_cons, List.drop_zero]
  repeat (go_big_quiet_step ((go_at_call 132; refine (r3.out _).mono ?_; rintro e w4 ⟨rfl, rfl⟩; exact ⟨rfl, _, rfl⟩)))
  refine wpQuiet_nil ?_; intro _ hw'; obtain ⟨nq, hw''⟩ := hw'; subst hw''
  clear cB fB
  have cB := blk_cell HB.out; have fB := blk_free HB.out
  go_wp2_with fail
  refine cutW (fun U => U.heap[w.heap.size]? = some (.cells #[.int .u64 (A3 : Nat), .int .u64 (B1 : Nat), .int .u64 (C1 : Nat), .int .u64 (D1 : Nat)] 134 (0, 0)) ∧ U.heap[w.heap.size + 1]? = some (.cells #[.int .u64 0, .int .u64 0, .int .u64 0, .int .u64 0] 134 (0, 0)) ∧ Kp All w U) ⟨blk_set (blk_set HB.out 3 _) 0 _, blk_far (blk_far HRR.out (by simp) _) (by simp) _, (((HK.out.drewN nq).setNew (Nat.le_refl _) _).setNew (Nat.le_refl _) _)⟩ ?_
  rintro U ⟨hb, hr, hk⟩
  have cB := blk_cell hb; have fB := blk_free hb
  have HB := hid hb; have HRR := hid hr; have HK := hid hk
  clear hb hr hk
  refine RegionLast.wp_region_end_quiet (by kernel_rfl) (by kernel_rfl) (by kernel_rfl) ?_; simp only [List.length_cons, List.length_nil, Nat.zero_add, Nat.reduceAdd, Nat.reduceSub, List.take_succ_cons, List.take_zero, List.drop_succ_cons, List.drop_zero]
  repeat (go_big_quiet_step ((go_at_call 132; refine (r4.out _).mono ?_; rintro e w4 ⟨rfl, rfl⟩; exact ⟨rfl, _, rfl⟩)))
  refine wpQuiet_nil ?_; intro _ hw'; obtain ⟨nq, hw''⟩ := hw'; subst hw''
  clear cB fB
  have cB := blk_cell HB.out; have fB := blk_free HB.out
  go_wp2_with fail
  refine cutW (fun U => U.heap[w.heap.size]? = some (.cells #[.int .u64 (A3 : Nat), .int .u64 (B1 : Nat), .int .u64 (C2 : Nat), .int .u64 (D2 : Nat)] 134 (0, 0)) ∧ U.heap[w.heap.size + 1]? = some (.cells #[.int .u64 0, .int .u64 0, .int .u64 0, .int .u64 0] 134 (0, 0)) ∧ Kp All w U) ⟨blk_set (blk_set HB.out 3 _) 2 _, blk_far (blk_far HRR.out (by simp) _) (by simp) _, (((HK.out.drewN nq).setNew (Nat.le_refl _) _).setNew (Nat.le_refl _) _)⟩ ?_
  rintro U ⟨hb, hr, hk⟩
  have cB := blk_cell hb; have fB := blk_free hb
  have HB := hid hb; have HRR := hid hr; have HK := hid hk
  clear hb hr hk
  refine RegionLast.wp_region_end_quiet (by kernel_rfl) (by kernel_rfl) (by kernel_rfl) ?_; simp only [List.length_cons, List.length_nil, Nat.zero_add, Nat.reduceAdd, Nat.reduceSub, List.take_succ_cons, List.take_zero, List.drop_succ_cons, List.drop_zero]
  repeat (go_big_quiet_step ((go_at_call 132; refine (r5.out _).mono ?_; rintro e w4 ⟨rfl, rfl⟩; exact ⟨rfl, _, rfl⟩)))
  refine wpQuiet_nil ?_; intro _ hw'; obtain ⟨nq, hw''⟩ := hw'; subst hw''
  clear cB fB
  have cB := blk_cell HB.out; have fB := blk_free HB.out
  go_wp2_with fail
  refine (r6.out _).mono ?_
  rintro e w2 ⟨rfl, hw⟩
  subst hw
  have cR := blk_cell HRR.out; have fR := blk_free HRR.out
  go_wp2_with fail
  refine bodyPost_ret (v := .agg #[.int .u64 (A3 : Nat), .int .u64 (B2 : Nat), .int .u64 (C3 : Nat), .int .u64 (D2 : Nat)]) (by simp [results, Tryz.results106, go_sem, cR, fR]) rfl ⟨rfl, ?_⟩
  exact (((((HK.out.drewN nq).setNew (Nat.le_refl _) _).setNew (Nat.le_refl _) _).setNew (by simp) _).setNew (by simp) _).setNew (by simp) _ |>.setNew (by simp) _
end Go.Proofs.YtodledidabdkaaaGreatDoor

namespace Go.Proofs.YtodledidabdkaaaGreatDoor
open Go.RowKit V
set_option linter.unusedVariables false
set_option linter.unusedSimpArgs false
set_option maxRecDepth 100000 in
set_option maxHeartbeats 2000000 in
theorem r2block_any (v : V4) (hv : v.ok) (m : Nat) (hm : m < 18446744073709551616) (w : World) :
    Calls Tryz.prog 105 #[.agg (vc v), .int .u64 m] w fun e w' => e = .returned (.agg (vc (takeP v m))) ∧ Kp All w w' := by
  have h1 : V4.ok { v with d := v.d ^^^ m } := ⟨hv.1, hv.2.1, hv.2.2.1, xor_lt64 hv.2.2.2 hm⟩
  have h2 := round_ok h1
  have h3 := round_ok h2
  have hx1 : bits .xor .u64 (v.d : Int) (m : Int) = ((v.d ^^^ m : Nat) : Int) := u64_xor_nat _ _ hv.2.2.2 hm
  have hx2 := u64_xor_nat (roundP (roundP { v with d := v.d ^^^ m })).a m h3.1 hm
  have hT : takeP v m = { roundP (roundP { v with d := v.d ^^^ m }) with a := (roundP (roundP { v with d := v.d ^^^ m })).a ^^^ m } := rfl
  rw [hT]
  have r1 := hid (fun w => r2round_any { v with d := v.d ^^^ m } h1 w)
  have r2 := hid (fun w => r2round_any (roundP { v with d := v.d ^^^ m }) h2 w)
  clear hT h1 h2
  obtain ⟨a, b, c, d⟩ := v
  simp only at *
  generalize d ^^^ m = D at *
  generalize roundP ⟨a, b, c, D⟩ = u1 at *
  generalize roundP u1 = u2 at *
  obtain ⟨a2, b2, c2, d2⟩ := u2
  simp only at *
  generalize a2 ^^^ m = A at *
  have hd := hv.2.2.2
  have ha2 := h3.1
  simp only at hd ha2
  clear hv h3
  unfold vc
  simp only
  go_enter Tryz.func105, Tryz.ntmps105
  go_wp2_with fail
  refine (r1.out _).mono ?_
  rintro e w1 ⟨rfl, k1⟩
  have bB := k1.heap (blk_alloc (blk_new w (.cells #[.int .u64 a, .int .u64 b, .int .u64 c, .int .u64 (D : Nat)] 134)) (.cells #[.int .u64 0, .int .u64 0, .int .u64 0, .int .u64 0] 134)) trivial
  have bR := k1.heap (blk_new (w.alloc (.cells #[.int .u64 a, .int .u64 b, .int .u64 c, .int .u64 (D : Nat)] 134)) (.cells #[.int .u64 0, .int .u64 0, .int .u64 0, .int .u64 0] 134)) trivial
  rw [World.size_alloc] at bR
  have K1 : Hid (Kp All w w1) := hid (((Kp.al w _).alloc _).trans k1)
  have BB := hid bB; have BR := hid bR
  clear k1 bB bR
  go_wp2_with fail
  refine (r2.out _).mono ?_
  rintro e w2 ⟨rfl, k2⟩
  have hB := k2.heap BB.out trivial
  have hR := k2.heap BR.out trivial
  have cB := blk_cell hB; have fB := blk_free hB
  have cR := blk_cell hR; have fR := blk_free hR
  have K2 := hid (K1.out.trans k2)
  clear k2 hB hR
  unfold vc
  simp only
  go_wp2_with fail
  refine bodyPost_ret (v := .agg #[.int .u64 (A : Nat), .int .u64 (b2 : Nat), .int .u64 (c2 : Nat), .int .u64 (d2 : Nat)]) (by simp [results, Tryz.results105, go_sem, cR, fR]) rfl ⟨rfl, ?_⟩
  exact (((((((((K2.out.setNew (Nat.le_refl _) _).setNew (Nat.le_refl _) _).setNew (Nat.le_refl _) _).setNew (Nat.le_refl _) _).setNew (Nat.le_refl _) _).setNew (by simp) _).setNew (by simp) _).setNew (by simp) _).setNew (by simp) _)
theorem r2split_any (h : Nat) (hh : h < 18446744073709551616) (w : World) :
    Calls Tryz.prog 73 #[.int .u64 h] w fun e w' => e = .returned (.tuple #[.int .u64 ((h / 128 : Nat) : Int), .int .u8 ((h % 128 : Nat) : Int)]) ∧ w' = w := by
  have h1 : Int.tdiv (h : Int) 128 = ((h / 128 : Nat) : Int) := rfl
  have h2 : Int.tmod (h : Int) 128 = ((h % 128 : Nat) : Int) := rfl
  have h3 : IntKind.u8.wrap ((h % 128 : Nat) : Int) = ((h % 128 : Nat) : Int) := by rw [wrapn8]; omega
  have h4 : IntKind.u64.wrap ((h / 128 : Nat) : Int) = ((h / 128 : Nat) : Int) := by rw [wrapn]; omega
  have h5 : IntKind.u64.wrap ((h % 128 : Nat) : Int) = ((h % 128 : Nat) : Int) := by rw [wrapn]; omega
  generalize h % 128 = x at *
  generalize h / 128 = y at *
  go_enter Tryz.func73, Tryz.ntmps73
  go_wp2_with fail
  exact bodyPost_ret (v := .tuple #[.int .u64 (y : Int), .int .u8 (x : Int)]) (by simp [results, Tryz.results73, go_sem]) rfl ⟨rfl, rfl⟩
set_option maxRecDepth 100000 in
set_option maxHeartbeats 2000000 in
theorem r2sum_any (k0 k1 : Nat) (h0 : k0 < 18446744073709551616) (h1 : k1 < 18446744073709551616) (s : ByteArray) (hs : s.size ≤ 9000000000000000000) (w : World) :
    Calls Tryz.prog 74 #[.int .u64 k0, .int .u64 k1, .string s] w fun e w' => e = .returned (.int .u64 (sipP k0 k1 s)) ∧ Kp All w w' := by
  have hx : ∀ (k c : Nat), k < 18446744073709551616 → c < 18446744073709551616 → bits .xor .u64 (k : Int) (c : Int) = ((k ^^^ c : Nat) : Int) := fun k c a b => u64_xor_nat _ _ a b
  have x1 : bits .xor .u64 (k0 : Int) 8317987319222330741 = ((k0 ^^^ 8317987319222330741 : Nat) : Int) := hx _ _ h0 (by decide)
  have x2 : bits .xor .u64 (k1 : Int) 7237128888997146477 = ((k1 ^^^ 7237128888997146477 : Nat) : Int) := hx _ _ h1 (by decide)
  have x3 : bits .xor .u64 (k0 : Int) 7816392313619706465 = ((k0 ^^^ 7816392313619706465 : Nat) : Int) := hx _ _ h0 (by decide)
  have x4 : bits .xor .u64 (k1 : Int) 8387220255154660723 = ((k1 ^^^ 8387220255154660723 : Nat) : Int) := hx _ _ h1 (by decide)
  have hok := begin_ok h0 h1
  obtain ⟨n, hN⟩ : ∃ n, s.size = n := ⟨_, rfl⟩
  have hL : s.data.toList.length = n := by rw [Array.length_toList]; exact hN
  have HS : Hid (sipP k0 k1 s = endP (takeP (feedL (beginP k0 k1) 0 0 s.data.toList).1 ((feedL (beginP k0 k1) 0 0 s.data.toList).2 ||| (n % 256) * 2 ^ 56))) := hid (by rw [feed_sip, hL])
  have HO := hid hok; have HL := hid hL; have HX := hid hx
  rw [hN] at hs
  clear hx hok hL
  go_enter Tryz.func74, Tryz.ntmps74
  go_wp2_with fail
  clear x1 x2 x3 x4
  have hB := blk_new w (.cells (vc (beginP k0 k1)) 134)
  have hK := Kp.al w (.cells (vc (beginP k0 k1)) 134)
  unfold vc beginP at hB hK
  have HB := hid hB
  have HK := hid hK
  clear hB hK
  go_loopw [8, 9] (fun m i wr => ∃ (k mm : Nat) (v : V4), k ≤ n ∧ m = .int .u64 mm ∧ i = .int .i64 k ∧ mm < 18446744073709551616 ∧ Hid (feedL v mm (k % 8) (s.data.toList.drop k) = feedL (beginP k0 k1) 0 0 s.data.toList) ∧ Hid v.ok ∧ Hid (wr.heap[w.heap.size]? = some (.cells (vc v) 134 (0, 0))) ∧ Hid (Kp All w wr)) (fun _ i _ => n - (intOf i).toNat)
  case atStart => exact ⟨0, 0, beginP k0 k1, by omega, rfl, rfl, by omega, hid rfl, HO, HB, HK⟩
  case round =>
    obtain ⟨k, m, v, hk, rfl, rfl, hm, hE, hV, hB, hK⟩ := hrel
    by_cases hlt : k < n
    · have d0 : decide ((k : Int) < (n : Int)) = true := decide_eq_true (by omega)
      have hks : k < s.size := by omega
      obtain ⟨r, hr⟩ : ∃ r, r = k % 8 := ⟨_, rfl⟩
      have hr8 : r < 8 := by omega
      have hrem : Int.tmod (k : Int) 8 = (r : Int) := by rw [hr]; rfl
      have w1 : IntKind.i64.wrap (r : Int) = (r : Int) := IntWalk.i64_in _ (by omega)
      have w2 : IntKind.i64.wrap (8 * (r : Int)) = 8 * (r : Int) := IntWalk.i64_in _ (by omega)
      have w3 : IntKind.u64.wrap (8 * (r : Int)) = 8 * (r : Int) := by rw [show (8 * (r : Int)) = ((8 * r : Nat) : Int) from by omega, wrapn]; omega
      have hkl : k < s.data.toList.length := by rw [HL.out]; exact hlt
      have hdr : s.data.toList.drop k = s.data.toList[k] :: s.data.toList.drop (k + 1) := List.drop_eq_getElem_cons hkl
      have hge : s.data.toList[k] = s[k] := by rw [Array.getElem_toList]; rfl
      have hbt := (s[k]).toNat_lt
      have hp : (2 : Nat) ^ (8 * r) ≤ 2 ^ 56 := Nat.pow_le_pow_right (by omega) (by omega)
      have hbm : (s[k]).toNat * 2 ^ (8 * r) < 18446744073709551616 := Nat.lt_of_le_of_lt (Nat.mul_le_mul (show (s[k]).toNat ≤ 255 by omega) hp) (by decide)
      have hor : bits .or .u64 (m : Int) (IntKind.u64.wrap (((s[k]).toNat : Int) * 2 ^ (8 * r))) = ((m ||| (s[k]).toNat * 2 ^ (8 * r) : Nat) : Int) := by
        rw [show (((s[k]).toNat : Int) * 2 ^ (8 * r)) = (((s[k]).toNat * 2 ^ (8 * r) : Nat) : Int) from by simp, wrapn, Nat.mod_eq_of_lt hbm]
        exact u64_or_nat _ _ hm hbm
      have hm2 : m ||| (s[k]).toNat * 2 ^ (8 * r) < 18446744073709551616 := Nat.or_lt_two_pow (n := 64) hm hbm
      have hfe : feedL v m r (s.data.toList.drop k) = if r = 7 then feedL (takeP v (m ||| (s[k]).toNat * 2 ^ (8 * r))) 0 0 (s.data.toList.drop (k + 1)) else feedL v (m ||| (s[k]).toNat * 2 ^ (8 * r)) (r + 1) (s.data.toList.drop (k + 1)) := by rw [hdr, feedL, hge]
      have hE2 := hE.out
      rw [← hr, hfe] at hE2
      have HR := hid hr; have HOR := hid hor
      clear hr hdr hge hp hbm hor hfe
      generalize m ||| (s[k]).toNat * 2 ^ (8 * r) = m2 at *
      have cB := blk_cell hB.out; have fB := blk_free hB.out
      unfold vc at cB
      by_cases h7 : r = 7
      · have d7 : ((r : Int) == 7) = true := by simp [h7]
        rw [if_pos h7] at hE2
        have HE := hid hE2; have H7 := hid h7
        have HBK := hid (fun w => r2block_any v hV.out m2 hm2 w)
        clear hE2 h7
        go_wp2_with fail
        rw [HOR.out]
        refine (HBK.out _).mono ?_
        rintro e w5 ⟨rfl, hk5⟩
        have hb5 := hk5.heap hB.out trivial
        have cB := blk_cell hb5; have fB := blk_free hb5
        unfold vc at cB
        have HB5 := hid hb5; have HK5 := hid (hK.out.trans hk5)
        clear hk5 hb5
        have hok2 := take_ok hV.out hm2
        generalize takeP v m2 = v2 at *
        obtain ⟨e1, e2, e3, e4⟩ := v2
        unfold vc
        simp only
        go_wp2_with fail
        have hb6 := blk_set (blk_set (blk_set (blk_set HB5.out 0 (.int .u64 (e1 : Nat))) 1 (.int .u64 (e2 : Nat))) 2 (.int .u64 (e3 : Nat))) 3 (.int .u64 (e4 : Nat))
        refine ⟨⟨k + 1, 0, ⟨e1, e2, e3, e4⟩, by omega, rfl, by go_num, by omega, hid ?_, hid hok2, hid hb6, hid ((((HK5.out.setNew (Nat.le_refl _) _).setNew (Nat.le_refl _) _).setNew (Nat.le_refl _) _).setNew (Nat.le_refl _) _)⟩, by simp [intOf]; omega⟩
        rw [show (k + 1) % 8 = 0 from by have := HR.out; have := H7.out; omega]
        exact HE.out
      · have d7 : ((r : Int) == 7) = false := by simp; omega
        rw [if_neg h7] at hE2
        have HE := hid hE2; have H7 := hid h7
        clear hE2 h7
        go_wp2_with fail
        rw [HOR.out]
        refine ⟨⟨k + 1, m2, v, by omega, rfl, by go_num, hm2, hid ?_, hV, hB, hK⟩, by simp [intOf]; omega⟩
        rw [show (k + 1) % 8 = r + 1 from by have := HR.out; have := H7.out; omega]
        exact HE.out
    · have d0 : decide ((k : Int) < (n : Int)) = false := decide_eq_false (by omega)
      have hkn : k = n := by omega
      have hF : feedL (beginP k0 k1) 0 0 s.data.toList = (v, m) := by
        rw [← hE.out, List.drop_of_length_le (by rw [HL.out]; omega)]
        rfl
      have hz : n % 256 < 256 := by omega
      have hrem : Int.tmod (n : Int) 256 = ((n % 256 : Nat) : Int) := rfl
      have hSS := HS.out
      rw [hF] at hSS
      dsimp only at hSS
      obtain ⟨z, hzz⟩ : ∃ z, n % 256 = z := ⟨_, rfl⟩
      rw [hzz] at hz hrem hSS
      have w1 : IntKind.i64.wrap (z : Int) = (z : Int) := IntWalk.i64_in _ (by omega)
      have w3 : IntKind.u64.wrap (z : Int) = (z : Int) := by rw [wrapn]; omega
      have hbm : z * 2 ^ 56 < 18446744073709551616 := by omega
      have hor : bits .or .u64 (m : Int) ((z : Int) * 72057594037927936) = ((m ||| z * 2 ^ 56 : Nat) : Int) := by
        rw [show ((z : Int) * 72057594037927936) = ((z * 2 ^ 56 : Nat) : Int) from by omega]
        exact u64_or_nat _ _ hm hbm
      have hy : m ||| z * 2 ^ 56 < 18446744073709551616 := Nat.or_lt_two_pow (n := 64) hm hbm
      have HOR := hid hor
      clear hor hF hzz hkn hE
      generalize m ||| z * 2 ^ 56 = y at *
      have HBK := hid (fun w => r2block_any v hV.out y hy w)
      have hOK := take_ok hV.out hy
      have cB := blk_cell hB.out; have fB := blk_free hB.out
      unfold vc at cB
      go_wp2_with fail
      rw [HOR.out]
      refine (HBK.out _).mono ?_
      rintro e w5 ⟨rfl, hk5⟩
      have hb5 := hk5.heap hB.out trivial
      have cB := blk_cell hb5; have fB := blk_free hb5
      unfold vc at cB
      have HB5 := hid hb5; have HK5 := hid (hK.out.trans hk5)
      clear hk5 hb5
      clear HBK HB HK hB hK
      generalize takeP v y = v2 at *
      obtain ⟨a, b, c, d⟩ := v2
      have hcc := hOK.2.2.1
      simp only at hcc
      have hX : bits .xor .u64 (c : Int) 255 = ((c ^^^ 255 : Nat) : Int) := u64_xor_nat c 255 hcc (by decide)
      have hC : c ^^^ 255 < 18446744073709551616 := xor_lt64 hcc (by decide)
      have HS3 : Hid (sipP k0 k1 s = (itR roundP 4 ⟨a, b, c ^^^ 255, d⟩).a ^^^ (itR roundP 4 ⟨a, b, c ^^^ 255, d⟩).b ^^^ (itR roundP 4 ⟨a, b, c ^^^ 255, d⟩).c ^^^ (itR roundP 4 ⟨a, b, c ^^^ 255, d⟩).d) := hid (by rw [hSS, endP])
      generalize c ^^^ 255 = C at *
      have o1 : V4.ok ⟨a, b, C, d⟩ := ⟨hOK.1, hOK.2.1, hC, hOK.2.2.2⟩
      have o2 := round_ok o1
      have o3 := round_ok o2
      have o4 := round_ok o3
      have o5 := round_ok o4
      have q1 := hid (fun w => r2round_any _ o1 w)
      have q2 := hid (fun w => r2round_any _ o2 w)
      have q3 := hid (fun w => r2round_any _ o3 w)
      have q4 := hid (fun w => r2round_any _ o4 w)
      have HS4 : Hid (sipP k0 k1 s = (roundP (roundP (roundP (roundP ⟨a, b, C, d⟩)))).a ^^^ (roundP (roundP (roundP (roundP ⟨a, b, C, d⟩)))).b ^^^ (roundP (roundP (roundP (roundP ⟨a, b, C, d⟩)))).c ^^^ (roundP (roundP (roundP (roundP ⟨a, b, C, d⟩)))).d) := hid HS3.out
      clear HS3 hSS HS o1 o2 o3 o4 hOK hC
      generalize roundP (roundP (roundP (roundP ⟨a, b, C, d⟩))) = u4 at *
      generalize roundP (roundP (roundP ⟨a, b, C, d⟩)) = u3 at *
      generalize roundP (roundP ⟨a, b, C, d⟩) = u2 at *
      generalize roundP ⟨a, b, C, d⟩ = u1 at *
      clear hz hrem w1 w3 hbm hy hm d0
      obtain ⟨W6, hW6⟩ : ∃ W6, (((w5.setCell ⟨w.heap.size, 0, none⟩ (.int .u64 (a : Nat))).setCell ⟨w.heap.size, 1, none⟩ (.int .u64 (b : Nat))).setCell ⟨w.heap.size, 2, none⟩ (.int .u64 (c : Nat))).setCell ⟨w.heap.size, 3, none⟩ (.int .u64 (d : Nat)) = W6 := ⟨_, rfl⟩
      have hb6 : W6.heap[w.heap.size]? = some (.cells #[.int .u64 (a : Nat), .int .u64 (b : Nat), .int .u64 (c : Nat), .int .u64 (d : Nat)] 134 (0, 0)) := by
        rw [← hW6]
        exact blk_set (blk_set (blk_set (blk_set HB5.out 0 _) 1 _) 2 _) 3 _
      have k6 : Kp All w W6 := by
        rw [← hW6]
        exact ((((HK5.out.setNew (Nat.le_refl _) _).setNew (Nat.le_refl _) _).setNew (Nat.le_refl _) _).setNew (Nat.le_refl _) _)
      have cB6 := blk_cell hb6; have fB6 := blk_free hb6
      have HB6 := hid hb6; have HK6 := hid k6
      clear hb6 k6
      obtain ⟨W7, hW7⟩ : ∃ W7, W6.setCell ⟨w.heap.size, 2, none⟩ (.int .u64 (C : Nat)) = W7 := ⟨_, rfl⟩
      have hb7 : W7.heap[w.heap.size]? = some (.cells #[.int .u64 (a : Nat), .int .u64 (b : Nat), .int .u64 (C : Nat), .int .u64 (d : Nat)] 134 (0, 0)) := by
        rw [← hW7]
        exact blk_set HB6.out 2 _
      have k7 : Kp All w W7 := by
        rw [← hW7]
        exact HK6.out.setNew (Nat.le_refl _) _
      have cB7 := blk_cell hb7; have fB7 := blk_free hb7
      have HB7 := hid hb7; have HK7 := hid k7
      clear hb7 k7
      unfold vc
      simp only
      go_wp2_with fail
      refine (q1.out _).mono ?_
      rintro e x1 ⟨rfl, hk1⟩
      have HK8 := hid (HK7.out.trans hk1); have HB8 := hid (hk1.heap HB7.out trivial)
      clear hk1 hW6 hW7 cB cB6 cB7 fB fB6 fB7
      go_wp2_with fail
      refine (q2.out _).mono ?_
      rintro e x2 ⟨rfl, hk1⟩
      have HK9 := hid (HK8.out.trans hk1); have HB9 := hid (hk1.heap HB8.out trivial)
      clear hk1
      go_wp2_with fail
      refine (q3.out _).mono ?_
      rintro e x3 ⟨rfl, hk1⟩
      have HKA := hid (HK9.out.trans hk1); have HBA := hid (hk1.heap HB9.out trivial)
      clear hk1
      go_wp2_with fail
      refine (q4.out _).mono ?_
      rintro e x4 ⟨rfl, hk1⟩
      have HKB := hid (HKA.out.trans hk1); have hb9 := hk1.heap HBA.out trivial
      clear hk1
      have cB := blk_cell hb9; have fB := blk_free hb9
      have HBB := hid hb9
      clear hb9
      obtain ⟨ea, eb, ec, ed⟩ := u4
      obtain ⟨g1, g2, g3, g4⟩ := o5
      simp only at g1 g2 g3 g4
      have y1 : bits .xor .u64 (ea : Int) (eb : Int) = ((ea ^^^ eb : Nat) : Int) := u64_xor_nat _ _ g1 g2
      have y2 : bits .xor .u64 ((ea ^^^ eb : Nat) : Int) (ec : Int) = ((ea ^^^ eb ^^^ ec : Nat) : Int) := u64_xor_nat _ _ (xor_lt64 g1 g2) g3
      have y3 : bits .xor .u64 ((ea ^^^ eb ^^^ ec : Nat) : Int) (ed : Int) = ((ea ^^^ eb ^^^ ec ^^^ ed : Nat) : Int) := u64_xor_nat _ _ (xor_lt64 (xor_lt64 g1 g2) g3) g4
      have HS5 := HS4.out
      dsimp only at HS5
      have HS6 := hid HS5
      clear HS5 HS4
      generalize ea ^^^ eb ^^^ ec ^^^ ed = R at *
      generalize ea ^^^ eb ^^^ ec = R3 at *
      generalize ea ^^^ eb = R2 at *
      obtain ⟨W6, hW6⟩ : ∃ W6, (((x4.setCell ⟨w.heap.size, 0, none⟩ (.int .u64 (ea : Nat))).setCell ⟨w.heap.size, 1, none⟩ (.int .u64 (eb : Nat))).setCell ⟨w.heap.size, 2, none⟩ (.int .u64 (ec : Nat))).setCell ⟨w.heap.size, 3, none⟩ (.int .u64 (ed : Nat)) = W6 := ⟨_, rfl⟩
      have hb6 : W6.heap[w.heap.size]? = some (.cells #[.int .u64 (ea : Nat), .int .u64 (eb : Nat), .int .u64 (ec : Nat), .int .u64 (ed : Nat)] 134 (0, 0)) := by
        rw [← hW6]
        exact blk_set (blk_set (blk_set (blk_set HBB.out 0 _) 1 _) 2 _) 3 _
      have k6 : Kp All w W6 := by
        rw [← hW6]
        exact ((((HKB.out.setNew (Nat.le_refl _) _).setNew (Nat.le_refl _) _).setNew (Nat.le_refl _) _).setNew (Nat.le_refl _) _)
      have cB6 := blk_cell hb6; have fB6 := blk_free hb6
      have HKC := hid k6
      clear hb6 k6
      simp only [vc]
      go_wp2_with fail
      go_ret
      refine ⟨?_, HKC.out⟩
      rw [HS6.out]
      rfl
end Go.Proofs.YtodledidabdkaaaGreatDoor

namespace Go.Proofs.YtodledidabdkaaaGreatDoor
open Go.RowKit V
set_option linter.unusedVariables false
set_option linter.unusedSimpArgs false
set_option maxRecDepth 100000 in
theorem r3get_any (l : List Nat) (hb : Bt l) (h8 : l.length = 8) (i : Nat) (hi : i < 1000000) (w : World) :
    Calls Tryz.prog 76 #[.int .u64 (wd l), .int .i64 i] w fun e w' => e = .returned (.int .u8 (l.getD (i % 8) 0)) ∧ w' = w := by
  have hl := wd_lt8 hb h8
  have hw := wd_get l (i % 8) hb
  have ha : Int.tmod (i : Int) 8 = ((i % 8 : Nat) : Int) := rfl
  obtain ⟨u, hu⟩ : ∃ u, wd l = u := ⟨_, rfl⟩
  rw [hu] at hw hl ⊢
  have h7 : i % 8 < 8 := Nat.mod_lt _ (by omega)
  have HW := hid hw
  clear hw
  obtain ⟨j, hj⟩ : ∃ j, i % 8 = j := ⟨_, rfl⟩
  rw [hj] at ha h7 HW ⊢
  clear hj
  obtain rfl | rfl | rfl | rfl | rfl | rfl | rfl | rfl : j = 0 ∨ j = 1 ∨ j = 2 ∨ j = 3 ∨ j = 4 ∨ j = 5 ∨ j = 6 ∨ j = 7 := by omega
  all_goals
    simp only [Int.cast_ofNat_Int, Int.natCast_zero] at ha
    go_enter Tryz.func76, Tryz.ntmps76
    go_wp2
    go_ret
    refine ⟨congrArg (fun z => Ending.returned (.int .u8 z)) ?_, rfl⟩
    have := HW.out
    simp only [Nat.reducePow] at this
    try rw [wrapn8]
    omega
set_option maxRecDepth 100000 in
theorem r3set_any (l : List Nat) (hb : Bt l) (h8 : l.length = 8) (i c : Nat) (hi : i < 1000000) (hc : c < 256) (w : World) :
    Calls Tryz.prog 43 #[.int .u64 (wd l), .int .i64 i, .int .u8 c] w fun e w' => e = .returned (.int .u64 (wd (l.set (i % 8) c))) ∧ w' = w := by
  have hl := wd_lt8 hb h8
  have h7 : i % 8 < 8 := Nat.mod_lt _ (by omega)
  have hs := set_eq l hb h8 (i % 8) c h7 hc
  have ha : Int.tmod (i : Int) 8 = ((i % 8 : Nat) : Int) := rfl
  obtain ⟨u, hu⟩ : ∃ u, wd l = u := ⟨_, rfl⟩
  rw [hu] at hs hl ⊢
  have hB := set_bits u (i % 8) c hl h7 hc
  rw [hs] at hB
  obtain ⟨j, hj⟩ : ∃ j, i % 8 = j := ⟨_, rfl⟩
  rw [hj] at ha h7 hB ⊢
  have HB := hid hB
  clear hB hs
  have H8 := hid hj
  clear hj
  obtain rfl | rfl | rfl | rfl | rfl | rfl | rfl | rfl : j = 0 ∨ j = 1 ∨ j = 2 ∨ j = 3 ∨ j = 4 ∨ j = 5 ∨ j = 6 ∨ j = 7 := by omega
  all_goals
    simp only [Int.cast_ofNat_Int, Int.natCast_zero] at ha
    go_enter Tryz.func43, Tryz.ntmps43
    go_wp2
    go_ret
    refine ⟨congrArg (fun z => Ending.returned (.int .u64 z)) (HB.out _ _ ?_ ?_), rfl⟩
    · simp only [Nat.reducePow, Nat.reduceMul]; try first | rfl | omega
    · simp only [Nat.reducePow, Nat.reduceMul]; try first | rfl | omega
theorem bits_take (p : Nat → Bool) (l : List Nat) (k b : Nat) (h : l[k]? = some b) : bitsOf p (l.take (k + 1)) = bitsOf p (l.take k) ||| (if p b then 2 ^ k else 0) := by
  apply Nat.eq_of_testBit_eq
  intro j
  rw [Nat.testBit_or, bits_test, bits_test, List.getElem?_take, List.getElem?_take]
  by_cases hj : j < k
  · rw [if_pos hj, if_pos (by omega)]
    cases hp : p b
    · simp
    · simp [Nat.testBit_two_pow_of_ne (show k ≠ j by omega)]
  · rw [if_neg hj]
    by_cases e : j = k
    · subst e
      rw [if_pos (by omega), h]
      cases hp : p b <;> simp [hp, Nat.testBit_two_pow_self]
    · rw [if_neg (by omega)]
      cases hp : p b
      · simp
      · simp [Nat.testBit_two_pow_of_ne (show k ≠ j by omega)]
set_option maxRecDepth 100000 in
theorem r3match_any (l : List Nat) (hb : Bt l) (h8 : l.length = 8) (h : Nat) (hh : h < 256) (w : World) :
    Calls Tryz.prog 42 #[.int .u64 (wd l), .int .u8 h] w fun e w' => e = .returned (.int .u8 (bitsOf (fun b => b == h) l)) ∧ w' = w := by
  have HG := hid (fun i hi w => r3get_any l hb h8 i hi w)
  have HT := hid (fun k b hk => bits_take (fun b => b == h) l k b hk)
  have HL := hid (fun k => bits_lt (fun b => b == h) (l.take k))
  obtain ⟨u, hu⟩ : ∃ u, wd l = u := ⟨_, rfl⟩
  rw [hu] at HG ⊢
  clear hu
  go_enter Tryz.func42, Tryz.ntmps42
  go_wp2_with fail
  go_loopw [5, 6] (fun m i wr => ∃ k : Nat, k ≤ 8 ∧ m = .int .u8 (bitsOf (fun b => b == h) (l.take k)) ∧ i = .int .i64 k ∧ wr = w) (fun _ i _ => 8 - (intOf i).toNat)
  case atStart => exact ⟨0, by omega, rfl, rfl, rfl⟩
  case round =>
    obtain ⟨k, hk, rfl, rfl, rfl⟩ := hrel
    by_cases hlt : k < 8
    · have d0 : decide ((k : Int) < 8) = true := decide_eq_true (by omega)
      obtain ⟨b, hbk⟩ : ∃ b, l[k]? = some b := ⟨_, List.getElem?_eq_getElem (by omega)⟩
      have hgd : l.getD (k % 8) 0 = b := by rw [Nat.mod_eq_of_lt hlt]; exact getD_of hbk
      have HC := HG.out k (by omega) wr
      rw [hgd] at HC
      have HC := hid HC
      have ht := HT.out k b hbk
      have hml := HL.out k
      have hml2 : 2 ^ (l.take k).length ≤ 2 ^ 7 := Nat.pow_le_pow_right (by omega) (by rw [List.length_take]; omega)
      obtain ⟨m, hm⟩ : ∃ m, bitsOf (fun b => b == h) (l.take k) = m := ⟨_, rfl⟩
      rw [hm] at ht hml ⊢
      have hm8 : m < 128 := Nat.lt_of_lt_of_le hml hml2
      have HM := hid ht
      clear ht hml hml2 hgd hbk hm
      by_cases e : b = h
      · have de : ((b : Int) == (h : Int)) = true := by simp [e]
        have HM2 : Hid (bitsOf (fun b => b == h) (l.take (k + 1)) = m ||| 2 ^ k) := hid (by rw [HM.out, if_pos (by simp [e])])
        clear e
        go_wp2_with fail
        refine HC.out.mono ?_
        rintro e w1 ⟨rfl, hw⟩
        have hw := hw.symm
        subst hw
        go_wp2_with fail
        have hp8 : 2 ^ k < 256 := Nat.lt_of_le_of_lt (Nat.pow_le_pow_right (by omega) (show k ≤ 7 by omega)) (by decide)
        refine ⟨⟨k + 1, by omega, ?_, by go_num, trivial⟩, by simp [intOf]; omega⟩
        rw [HM2.out, show ((2 : Int) ^ k) = ((2 ^ k : Nat) : Int) from by simp]
        generalize 2 ^ k = P at *
        rw [show ((P : Int) % 256) = (P : Int) from by omega, u8_or_nat' _ _ (by omega) hp8]
      · have de : ((b : Int) == (h : Int)) = false := by simp; omega
        have HM2 : Hid (bitsOf (fun b => b == h) (l.take (k + 1)) = m ||| 0) := hid (by rw [HM.out, if_neg (by simp [e])])
        clear e
        go_wp2_with fail
        refine HC.out.mono ?_
        rintro e w1 ⟨rfl, hw⟩
        have hw := hw.symm
        subst hw
        go_wp2_with fail
        refine ⟨⟨k + 1, by omega, by rw [HM2.out]; simp, by go_num, trivial⟩, by simp [intOf]; omega⟩
    · have d0 : decide ((k : Int) < 8) = false := decide_eq_false (by omega)
      have e : l.take k = l := List.take_of_length_le (by omega)
      rw [e]
      clear e
      go_wp2_with fail
      go_ret
      exact ⟨rfl, rfl⟩
theorem r3free_any (l : List Nat) (hb : Bt l) (h8 : l.length = 8) (w : World) :
    Calls Tryz.prog 78 #[.int .u64 (wd l)] w fun e w' => e = .returned (.int .u8 (bitsOf (fun b => b == 128 || b == 254) l)) ∧ w' = w := by
  have H1 := hid (fun w => r3match_any l hb h8 128 (by omega) w)
  have H2 := hid (fun w => r3match_any l hb h8 254 (by omega) w)
  have b1 := bits_lt (fun b => b == 128) l
  have b2 := bits_lt (fun b => b == 254) l
  rw [h8] at b1 b2
  have ho := bits_or (fun b => b == 128) (fun b => b == 254) l
  obtain ⟨x, hx⟩ : ∃ x, bitsOf (fun b => b == 128) l = x := ⟨_, rfl⟩
  obtain ⟨y, hy⟩ : ∃ y, bitsOf (fun b => b == 254) l = y := ⟨_, rfl⟩
  rw [hx] at H1 b1 ho
  rw [hy] at H2 b2 ho
  obtain ⟨u, hu⟩ : ∃ u, wd l = u := ⟨_, rfl⟩
  rw [hu] at H1 H2 ⊢
  have HO := hid ho
  have HU := hid (u8_or_nat' x y b1 b2)
  clear hu hx hy ho
  go_enter Tryz.func78, Tryz.ntmps78
  go_wp2_with fail
  refine (H1.out _).mono ?_
  rintro e w1 ⟨rfl, rfl⟩
  go_wp2_with fail
  refine (H2.out _).mono ?_
  rintro e w2 ⟨rfl, rfl⟩
  go_wp2_with fail
  go_ret
  refine ⟨?_, rfl⟩
  rw [← HO.out]
  exact congrArg (fun z => Ending.returned (.int .u8 z)) HU.out
/-- the first of a set of eight; eight: there is none -/
def fst8 (s : Nat) : Nat := ((List.range 8).find? fun i => s.testBit i).getD 8
theorem fst8_els (s : Nat) : fst8 s = (els s).headD 8 := by
  unfold fst8 els
  rw [← List.head?_filter]
  cases List.filter (fun i => s.testBit i) (List.range 8) <;> rfl
theorem fst8_at {s k : Nat} (hk : k < 8) (h : s.testBit k = true) (hn : ∀ j, j < k → s.testBit j = false) : fst8 s = k := by
  unfold fst8
  rw [List.find?_range_eq_some.2 ⟨h, List.mem_range.2 hk, fun j hj => by simp [hn j hj]⟩]
  rfl
theorem fst8_none {s : Nat} (hn : ∀ j, j < 8 → s.testBit j = false) : fst8 s = 8 := by
  unfold fst8
  rw [List.find?_range_eq_none.2 fun j hj => by simp [hn j hj]]
  rfl
theorem and1_tab : ∀ x : Fin 256, bits .and .u8 ((x.val : Nat) : Int) 1 = ((x.val % 2 : Nat) : Int) := by decide +kernel
set_option maxRecDepth 100000 in
theorem r3first_any (s : Nat) (hs : s < 256) (w : World) :
    Calls Tryz.prog 77 #[.int .u8 s] w fun e w' => e = .returned (.int .i64 (fst8 s)) ∧ w' = w := by
  go_enter Tryz.func77, Tryz.ntmps77
  go_wp2_with fail
  go_loopw [3] (fun i wr => ∃ k : Nat, k ≤ 8 ∧ i = .int .i64 k ∧ Hid (∀ j, j < k → s.testBit j = false) ∧ wr = w) (fun i _ => 8 - (intOf i).toNat)
  case atStart => exact ⟨0, by omega, rfl, hid (fun j hj => by omega), rfl⟩
  case round =>
    obtain ⟨k, hk, rfl, hT, rfl⟩ := hrel
    by_cases hlt : k < 8
    · have d0 : decide ((k : Int) < 8) = true := decide_eq_true (by omega)
      have hx : s / 2 ^ k < 256 := Nat.lt_of_le_of_lt (Nat.div_le_self _ _) hs
      have hand : bits .and .u8 ((s : Int) / 2 ^ k) 1 = ((s / 2 ^ k % 2 : Nat) : Int) := by
        rw [show ((s : Int) / 2 ^ k) = ((s / 2 ^ k : Nat) : Int) from by simp]
        exact and1_tab ⟨s / 2 ^ k, hx⟩
      have htb := Nat.testBit_eq_decide_div_mod_eq (x := s) (i := k)
      clear hx
      generalize s / 2 ^ k % 2 = t at *
      by_cases ht : t = 1
      · rw [decide_eq_true ht] at htb
        have dt : ((t : Int) == 1) = true := by simp [ht]
        have HF := hid (fst8_at hlt htb hT.out)
        clear ht htb
        go_wp2_with fail
        go_ret
        exact ⟨by rw [HF.out]; rfl, rfl⟩
      · rw [decide_eq_false ht] at htb
        have dt : ((t : Int) == 1) = false := by simp; omega
        have HTB := hid htb
        clear ht htb
        go_wp2_with fail
        refine ⟨⟨k + 1, by omega, by go_num, hid (fun j hj => ?_), trivial⟩, by simp [intOf]; omega⟩
        rcases Nat.lt_or_ge j k with h | h
        · exact hT.out j h
        · rw [show j = k from by omega]; exact HTB.out
    · have d0 : decide ((k : Int) < 8) = false := decide_eq_false (by omega)
      have HF := hid (fst8_none (s := s) (fun j hj => hT.out j (by omega)))
      go_wp2_with fail
      go_ret
      exact ⟨by rw [HF.out]; rfl, rfl⟩
end Go.Proofs.YtodledidabdkaaaGreatDoor
