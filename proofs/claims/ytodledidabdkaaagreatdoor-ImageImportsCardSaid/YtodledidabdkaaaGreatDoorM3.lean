/- The groups' functions walked: words of eight bytes. No condition but that the numbers are of their kinds, and where the table of shifts lies. The groups' Get and Set walked. No condition but that the numbers are of their kinds, and where the table of shifts lies. SipHash walked. No condition but that the numbers are of their kinds. SipHash's closure and word walked. No condition but that the numbers are of their kinds. SipHash's Sum walked. No condition but that the numbers are of their kinds. -/
import Derived.Test.YtodledidabdkaaaGreatDoorM1
import Derived.Test.YtodledidabdkaaaGreatDoorM2
import Derived.Test.YtodledidabdkaaaGreatDoorVL
import Derived.Laws.BitsAllLaws
set_option linter.unusedVariables false
set_option linter.unusedSimpArgs false
namespace Go.Proofs.YtodledidabdkaaaGreatDoor
open Go.RowKit V
set_option linter.unusedVariables false
set_option linter.unusedSimpArgs false
/-- The table of shifts lies. -/
def Gs (w : World) : Prop := ∃ t fz, w.heap[0]? = some (.cells #[.int .u64 0, .int .u64 8, .int .u64 16, .int .u64 24, .int .u64 32, .int .u64 40, .int .u64 48, .int .u64 56] t fz)
theorem Gs.kept {S : Nat → Prop} {w w' : World} (h : Gs w) (k : Kp S w w') (hs : S 0) : Gs w' := by
  obtain ⟨t, fz, e⟩ := h
  exact ⟨t, fz, k.heap e hs⟩
theorem Gs.all {w w' : World} (h : Gs w) (k : Kp All w w') : Gs w' := h.kept k trivial
theorem u64_not (x : Nat) (h : x < 18446744073709551616) : bits .xor .u64 IntKind.u64.max (x : Int) = ((18446744073709551615 - x : Nat) : Int) := by
  have e : IntKind.u64.max = ((18446744073709551615 : Nat) : Int) := by rfl
  rw [e, u64_xor_nat _ _ (by omega) h]
  congr 1
  apply Nat.eq_of_testBit_eq
  intro i
  have h1 : (18446744073709551615 : Nat) = 2 ^ 64 - 1 := by decide
  have h2 : 18446744073709551615 - x = 2 ^ 64 - (x + 1) := by omega
  rw [h2, Nat.testBit_two_pow_sub_succ h, Nat.testBit_xor, h1, Nat.testBit_two_pow_sub_one]
  by_cases hi : i < 64
  · simp [hi]
  · have : x.testBit i = false := Nat.testBit_lt_two_pow (Nat.lt_of_lt_of_le h (Nat.pow_le_pow_right (by omega) (by omega) : 2 ^ 64 ≤ 2 ^ i))
    simp [hi, this]
theorem wrapn (n : Nat) : IntKind.u64.wrap (n : Int) = ((n % 18446744073709551616 : Nat) : Int) := by
  show ((n : Int)) % 18446744073709551616 = _
  omega
theorem wrapn8 (n : Nat) : IntKind.u8.wrap (n : Int) = ((n % 256 : Nat) : Int) := by
  show ((n : Int)) % 256 = _
  omega
theorem zeros_bits (u : Nat) (h1 : ((((u &&& 9187201950435737471) + 9187201950435737471) ||| u) ||| 9187201950435737471) ≤ 18446744073709551615) (h2 : (u &&& 9187201950435737471) + 9187201950435737471 < 18446744073709551616) (hl : u < 18446744073709551616) :
    bits .xor .u64 IntKind.u64.max (bits .or .u64 (bits .or .u64 (IntKind.u64.wrap (bits .and .u64 (u : Int) 9187201950435737471 + 9187201950435737471)) (u : Int)) 9187201950435737471) = ((18446744073709551615 - ((((u &&& 9187201950435737471) + 9187201950435737471) ||| u) ||| 9187201950435737471) : Nat) : Int) := by
  have e1 : bits .and .u64 (u : Int) 9187201950435737471 + 9187201950435737471 = (((u &&& 9187201950435737471) + 9187201950435737471 : Nat) : Int) := by
    have e0 : bits .and .u64 (u : Int) 9187201950435737471 = ((u &&& 9187201950435737471 : Nat) : Int) := u64_and_nat u 9187201950435737471 hl (by decide)
    rw [e0]
    generalize u &&& 9187201950435737471 = x
    omega
  rw [e1, wrapn, Nat.mod_eq_of_lt h2, u64_or_nat _ _ h2 hl]
  have h3 : ((u &&& 9187201950435737471) + 9187201950435737471 ||| u) < 18446744073709551616 := Nat.or_lt_two_pow (n := 64) h2 hl
  rw [show (9187201950435737471 : Int) = ((9187201950435737471 : Nat) : Int) from rfl, u64_or_nat _ _ h3 (by decide), u64_not _ (by omega)]
set_option maxRecDepth 100000 in
theorem zeros_any (l : List Nat) (hb : Bt l) (h8 : l.length = 8) (w : World) :
    Calls Tryz.prog 102 #[.int .u64 (wd l)] w fun e w' => e = .returned (.int .u64 (wd (l.map fun b => if b = 0 then 128 else 0))) ∧ w' = w := by
  obtain ⟨h1, h2, h3⟩ := zeros_eq l hb h8
  have hl := wd_lt8 hb h8
  obtain ⟨u, hu⟩ : ∃ u, wd l = u := ⟨_, rfl⟩
  rw [hu] at h1 h2 h3 hl ⊢
  have HE := hid (zeros_bits u h1 h2 hl)
  have H3 := hid h3
  clear h1 h2 h3
  go_enter Tryz.func102, Tryz.ntmps102
  go_wp2
  go_ret
  refine ⟨congrArg (fun z => Ending.returned (.int .u64 z)) (HE.out.trans ?_), rfl⟩
  rw [H3.out]
theorem gather_bits (u : Nat) (hl : u < 18446744073709551616) :
    IntKind.u8.wrap (IntKind.u64.wrap (bits .and .u64 (u : Int) 9259542123273814144 / 128 * 72624976668147840) / 72057594037927936) = ((((u &&& 9259542123273814144) / 128 * 72624976668147840) % 18446744073709551616 / 72057594037927936 : Nat) : Int) := by
  have e1 : bits .and .u64 (u : Int) 9259542123273814144 = ((u &&& 9259542123273814144 : Nat) : Int) := u64_and_nat u 9259542123273814144 hl (by decide)
  rw [e1]
  obtain ⟨x, hx⟩ : ∃ x, (u &&& 9259542123273814144) = x := ⟨_, rfl⟩
  rw [hx, show ((x : Int) / 128 * 72624976668147840) = ((x / 128 * 72624976668147840 : Nat) : Int) from by omega, wrapn]
  obtain ⟨y, hy⟩ : ∃ y, x / 128 * 72624976668147840 = y := ⟨_, rfl⟩
  rw [hy]
  show (((y % 18446744073709551616 : Nat) : Int) / 72057594037927936) % 256 = _
  omega
set_option maxRecDepth 100000 in
theorem gather_any (l : List Nat) (hb : Bt l) (h8 : l.length = 8) (w : World) :
    Calls Tryz.prog 101 #[.int .u64 (wd l)] w fun e w' => e = .returned (.int .u8 (bitsOf (fun b => decide (128 ≤ b)) l)) ∧ w' = w := by
  have h3 := gather_eq l hb h8
  have hl := wd_lt8 hb h8
  obtain ⟨u, hu⟩ : ∃ u, wd l = u := ⟨_, rfl⟩
  rw [hu] at h3 hl ⊢
  have HE := hid (gather_bits u hl)
  have H3 := hid h3
  clear h3
  go_enter Tryz.func101, Tryz.ntmps101
  go_wp2
  go_ret
  refine ⟨congrArg (fun z => Ending.returned (.int .u8 z)) (HE.out.trans ?_), rfl⟩
  rw [H3.out]
theorem xor_lt8 {a b : Nat} (ha : a < 256) (hb : b < 256) : a ^^^ b < 256 := Nat.xor_lt_two_pow (n := 8) ha hb
theorem ite_lt (b : Nat) : (if b = 0 then 128 else 0) < 256 := by split <;> omega
theorem bt_map {l : List Nat} {f : Nat → Nat} (h : ∀ b ∈ l, f b < 256) : Bt (l.map f) := by
  intro x hx
  obtain ⟨b, hb, rfl⟩ := List.mem_map.1 hx
  exact h b hb
set_option maxRecDepth 100000 in
theorem match_any (l : List Nat) (hb : Bt l) (h8 : l.length = 8) (h : Nat) (hh : h < 256) (w : World) :
    Calls Tryz.prog 67 #[.int .u64 (wd l), .int .u8 h] w fun e w' => e = .returned (.int .u8 (bitsOf (fun b => b == h) l)) ∧ w' = w := by
  have hl := wd_lt8 hb h8
  have hx := match_xor l hb h8 h hh
  have hm := match_eq l hb h8 h hh
  have hb2 : Bt (l.map fun b => b ^^^ h) := bt_map (f := fun b => b ^^^ h) fun b hb' => xor_lt8 (hb b hb') hh
  have hb3 : Bt ((l.map fun b => b ^^^ h).map fun b => if b = 0 then 128 else 0) := bt_map (f := fun b => if b = 0 then 128 else 0) fun b _ => ite_lt b
  have hm7 : 72340172838076673 * h < 18446744073709551616 := by omega
  have hc7 : (72340172838076673 * (h : Int)) = ((72340172838076673 * h : Nat) : Int) := by omega
  have e1 : bits .xor .u64 (wd l : Int) (72340172838076673 * (h : Int)) = ((wd (l.map fun b => b ^^^ h) : Nat) : Int) := by
    rw [hc7, u64_xor_nat (wd l) (72340172838076673 * h) hl hm7]
    exact congrArg Nat.cast hx
  clear hm7 hc7
  have HE := hid e1; have HM := hid hm; have HL8 := hid h8
  have HZ := hid (fun w => zeros_any (l.map fun b => b ^^^ h) hb2 (by simpa using h8) w)
  have HG := hid (fun w => gather_any ((l.map fun b => b ^^^ h).map fun b => if b = 0 then 128 else 0) hb3 (by simpa using h8) w)
  clear e1 hx hm hb2 hb3
  obtain ⟨L1, hL1⟩ : ∃ L1, (l.map fun b => b ^^^ h) = L1 := ⟨_, rfl⟩
  rw [hL1] at HE HM HZ HG
  obtain ⟨L2, hL2⟩ : ∃ L2, (L1.map fun b => if b = 0 then 128 else 0) = L2 := ⟨_, rfl⟩
  rw [hL2] at HM HZ HG
  clear hL1 hL2
  obtain ⟨u, hu⟩ : ∃ u, wd l = u := ⟨_, rfl⟩
  rw [hu] at HE hl ⊢
  go_enter Tryz.func67, Tryz.ntmps67
  go_wp2_with (first | (go_at_call 102; rw [HE.out]; refine (HZ.out _).mono ?_; rintro e w' ⟨rfl, rfl⟩) | (go_at_call 101; refine (HG.out _).mono ?_; rintro e w' ⟨rfl, rfl⟩))
  go_ret
  rw [HM.out]
  exact ⟨rfl, rfl⟩
set_option maxRecDepth 100000 in
theorem empties_any (l : List Nat) (hb : Bt l) (h8 : l.length = 8) (w : World) :
    Calls Tryz.prog 40 #[.int .u64 (wd l)] w fun e w' => e = .returned (.int .u8 (bitsOf (fun b => b == 128) l)) ∧ w' = w := by
  have HM := hid (fun w => match_any l hb h8 128 (by omega) w)
  obtain ⟨u, hu⟩ : ∃ u, wd l = u := ⟨_, rfl⟩
  rw [hu] at HM ⊢
  go_enter Tryz.func40, Tryz.ntmps40
  go_wp2_with (go_at_call 67; refine (HM.out _).mono ?_; rintro e w' ⟨rfl, rfl⟩)
  go_ret
  exact ⟨rfl, rfl⟩
theorem u8_or_nat' : ∀ a b : Nat, a < 256 → b < 256 → bits .or .u8 (a : Int) (b : Int) = ((a ||| b : Nat) : Int) := fun a b ha hb => by
  have := @u8_or_nat a b (by omega) (by omega)
  exact this
set_option maxRecDepth 100000 in
theorem free_any (l : List Nat) (hb : Bt l) (h8 : l.length = 8) (w : World) :
    Calls Tryz.prog 71 #[.int .u64 (wd l)] w fun e w' => e = .returned (.int .u8 (bitsOf (fun b => b == 128 || b == 254) l)) ∧ w' = w := by
  have HM := hid (show ∀ w, Calls Tryz.prog 67 #[.int .u64 (wd l), .int .u8 128] w fun e w' => e = .returned (.int .u8 (bitsOf (fun b => b == 128) l)) ∧ w' = w from fun w => match_any l hb h8 128 (by omega) w)
  have HN := hid (show ∀ w, Calls Tryz.prog 67 #[.int .u64 (wd l), .int .u8 254] w fun e w' => e = .returned (.int .u8 (bitsOf (fun b => b == 254) l)) ∧ w' = w from fun w => match_any l hb h8 254 (by omega) w)
  have b1 := bits_lt (fun b => b == 128) l
  have b2 := bits_lt (fun b => b == 254) l
  have b3 := bits_or (fun b => b == 128) (fun b => b == 254) l
  rw [h8] at b1 b2
  obtain ⟨u, hu⟩ : ∃ u, wd l = u := ⟨_, rfl⟩
  obtain ⟨x, hx⟩ : ∃ x, bitsOf (fun b => b == 128) l = x := ⟨_, rfl⟩
  obtain ⟨y, hy⟩ : ∃ y, bitsOf (fun b => b == 254) l = y := ⟨_, rfl⟩
  rw [hx] at HM b1 b3
  rw [hy] at HN b2 b3
  rw [hu] at HM HN ⊢
  have HO := hid (u8_or_nat' x y b1 b2)
  have H3 := hid b3
  have c1 : x < 256 := b1
  have c2 : y < 256 := b2
  clear b3 b1 b2
  go_enter Tryz.func71, Tryz.ntmps71
  go_wp2_with fail
  refine (HM.out _).mono ?_
  rintro e w' ⟨rfl, rfl⟩
  go_wp2_with fail
  refine (HN.out _).mono ?_
  rintro e w' ⟨rfl, rfl⟩
  go_wp2_with fail
  go_ret
  exact ⟨congrArg (fun z => Ending.returned (.int .u8 z)) (by rw [HO.out, H3.out]), rfl⟩
theorem not_full (l : List Nat) (hb : Bt l) (h8 : l.length = 8) : 18446744073709551615 - wd l = wd (l.map fun b => 255 - b) ∧ bitsOf (fun b => decide (128 ≤ b)) (l.map fun b => 255 - b) = bitsOf (fun b => decide (b < 128)) l := by
  constructor
  · have h1 : wd (l.map fun b => b) + wd (l.map fun b => 255 - b) = 18446744073709551615 := by
      rw [wd_add]
      have e : wd (l.map fun b => b + (255 - b)) = wd (l.map fun _ => 255) := wd_congr fun b hb' => by have := hb b hb'; omega
      rw [e, wd_mapc h8]
    rw [V.map_id'] at h1
    omega
  · clear h8
    induction l with
    | nil => rfl
    | cons b r ih =>
      have h1 := hb b (List.mem_cons_self ..)
      simp only [bitsOf, List.map_cons, decide_eq_true_eq]
      rw [ih (fun x hx => hb x (List.mem_cons_of_mem _ hx))]
      congr 1
      by_cases h : b < 128
      · rw [if_pos h, if_pos (by omega)]
      · rw [if_neg h, if_neg (by omega)]
set_option maxRecDepth 100000 in
theorem gfull_any (l : List Nat) (hb : Bt l) (h8 : l.length = 8) (w : World) :
    Calls Tryz.prog 104 #[.int .u64 (wd l)] w fun e w' => e = .returned (.int .u8 (bitsOf (fun b => decide (b < 128)) l)) ∧ w' = w := by
  obtain ⟨n1, n2⟩ := not_full l hb h8
  have HG := hid (fun w => gather_any (l.map fun b => 255 - b) (bt_map fun b hb' => by have := hb b hb'; omega) (by simpa using h8) w)
  have hl := wd_lt8 hb h8
  have hn := u64_not (wd l) hl
  rw [n1] at hn
  rw [n2] at HG
  obtain ⟨u, hu⟩ : ∃ u, wd l = u := ⟨_, rfl⟩
  rw [hu] at hn hl ⊢
  have HN := hid hn
  clear hn
  go_enter Tryz.func104, Tryz.ntmps104
  go_wp2_with (go_at_call 101; rw [HN.out]; refine (HG.out _).mono ?_; rintro e w' ⟨rfl, rfl⟩)
  go_ret
  exact ⟨rfl, rfl⟩
/-- the lowest of a set -/
theorem tz_els : ∀ s : Fin 256, s.val ≠ 0 → (els s.val).head? = some (Lib.trailingZeros8 s.val) := by decide +kernel
theorem next_bits : ∀ s : Fin 256, s.val ≠ 0 → bits .and .u8 (s.val : Int) ((s.val : Int) - 1) = ((s.val &&& (s.val - 1) : Nat) : Int) := by decide +kernel
set_option maxRecDepth 100000 in
theorem first_any (s i : Nat) (r : List Nat) (hs : s < 256) (h : els s = i :: r) (w : World) :
    Calls Tryz.prog 69 #[.int .u8 s] w fun e w' => e = .returned (.int .i64 i) ∧ w' = w := by
  have h0 : s ≠ 0 := fun e => by rw [e, els_zero] at h; cases h
  have h1 := tz_els ⟨s, hs⟩ h0
  simp only [h, List.head?_cons, Option.some.injEq] at h1
  have HT := hid (fun w => Any.bits_TrailingZeros8 Tryz.tz8 s w (by omega) (by omega))
  rw [show ((s : Int)).toNat = s from rfl] at HT
  subst h1
  go_enter Tryz.func69, Tryz.ntmps69
  go_wp2_with (go_at_call 103; refine (HT.out _).mono ?_; rintro e w' ⟨rfl, rfl⟩)
  go_ret
  exact ⟨rfl, rfl⟩
set_option maxRecDepth 100000 in
theorem next_any (s i : Nat) (r : List Nat) (hs : s < 256) (h : els s = i :: r) (w : World) :
    Calls Tryz.prog 68 #[.int .u8 s] w fun e w' => ∃ s', e = .returned (.int .u8 (s' : Nat)) ∧ s' < 256 ∧ els s' = r ∧ w' = w := by
  have h0 : s ≠ 0 := fun e => by rw [e, els_zero] at h; cases h
  obtain ⟨j, h1, _⟩ := els_next ⟨s, hs⟩ h0
  simp only at h1
  have hr : els (s &&& (s - 1)) = r := by
    rw [h1] at h
    injection h
  have hn := next_bits ⟨s, hs⟩ h0
  simp only at hn
  have HN := hid hn
  have HR := hid hr
  clear h h1 hn hr
  go_enter Tryz.func68, Tryz.ntmps68
  go_wp2
  go_ret
  exact ⟨s &&& (s - 1), congrArg (fun z => Ending.returned (.int .u8 z)) HN.out, Nat.lt_of_le_of_lt Nat.and_le_left hs, HR.out, rfl⟩
end Go.Proofs.YtodledidabdkaaaGreatDoor

namespace Go.Proofs.YtodledidabdkaaaGreatDoor
open Go.RowKit V
set_option linter.unusedVariables false
set_option linter.unusedSimpArgs false
theorem i64_and_nat (a b : Nat) (ha : a < 9223372036854775808) (hb : b < 9223372036854775808) : bits .and .i64 (a : Int) (b : Int) = ((a &&& b : Nat) : Int) := by
  have hx : a &&& b < 2 ^ 63 := Nat.and_lt_two_pow _ hb
  show IntKind.i64.wrap ((BitVec.ofInt 64 (a : Int) &&& BitVec.ofInt 64 (b : Int)).toNat : Int) = _
  rw [BitVec.toNat_and, ofInt_u64 a (by omega), ofInt_u64 b (by omega), IntWalk.i64_in _ (by omega)]
theorem and7 (i : Nat) (hi : i < 1000000) : bits .and .i64 (i : Int) 7 = ((i % 8 : Nat) : Int) := by
  have e : (7 : Int) = ((7 : Nat) : Int) := rfl
  rw [e, i64_and_nat i 7 (by omega) (by decide), show (7 : Nat) = 2 ^ 3 - 1 from rfl, Nat.and_two_pow_sub_one_eq_mod]
set_option maxRecDepth 100000 in
theorem gget_any (l : List Nat) (hb : Bt l) (h8 : l.length = 8) (i : Nat) (hi : i < 1000000) (w : World) (hg : Gs w) :
    Calls Tryz.prog 72 #[.int .u64 (wd l), .int .i64 i] w fun e w' => e = .returned (.int .u8 (l.getD (i % 8) 0)) ∧ w' = w := by
  have hl := wd_lt8 hb h8
  have hw := wd_get l (i % 8) hb
  have ha := and7 i hi
  obtain ⟨t, fz, hgs⟩ := hg
  have hc := blk_cell hgs
  obtain ⟨u, hu⟩ : ∃ u, wd l = u := ⟨_, rfl⟩
  rw [hu] at hw hl ⊢
  have h7 : i % 8 < 8 := Nat.mod_lt _ (by omega)
  have HW := hid hw
  clear hw
  obtain ⟨j, hj⟩ : ∃ j, i % 8 = j := ⟨_, rfl⟩
  rw [hj] at ha h7 HW ⊢
  have H8 := hid hj
  clear hj
  obtain rfl | rfl | rfl | rfl | rfl | rfl | rfl | rfl : j = 0 ∨ j = 1 ∨ j = 2 ∨ j = 3 ∨ j = 4 ∨ j = 5 ∨ j = 6 ∨ j = 7 := by omega
  all_goals
    simp only [Int.cast_ofNat_Int, Int.natCast_zero] at ha
    go_enter Tryz.func72, Tryz.ntmps72
    go_wp2
    go_ret
    refine ⟨congrArg (fun z => Ending.returned (.int .u8 z)) ?_, rfl⟩
    have := HW.out
    simp only [Nat.reducePow] at this
    omega
theorem wd_zip (op : Nat → Nat → Nat) (h0 : op 0 0 = 0) (hop : ∀ a b q r, a < 256 → b < 256 → op (a + 256 * q) (b + 256 * r) = op a b + 256 * op q r) :
    ∀ (xs ys : List Nat), xs.length = ys.length → Bt xs → Bt ys → op (wd xs) (wd ys) = wd (List.zipWith op xs ys)
  | [], [], _, _, _ => h0
  | x :: xs, [], h, _, _ => by simp at h
  | [], y :: ys, h, _, _ => by simp at h
  | x :: xs, y :: ys, h, hx, hy => by
    simp only [wd, List.zipWith_cons_cons]
    rw [hop _ _ _ _ (hx x (List.mem_cons_self ..)) (hy y (List.mem_cons_self ..)), wd_zip op h0 hop xs ys (by simpa using h) (fun z hz => hx z (List.mem_cons_of_mem _ hz)) (fun z hz => hy z (List.mem_cons_of_mem _ hz))]
theorem byte_and : ∀ b : Fin 256, b.val &&& 255 = b.val := by decide +kernel
theorem bt_set {l : List Nat} {j c : Nat} (h : Bt l) (hc : c < 256) : Bt (l.set j c) := fun x hx => by
  rcases List.mem_or_eq_of_mem_set hx with h' | h'
  · exact h x h'
  · omega
theorem set_eq (l : List Nat) (hb : Bt l) (h8 : l.length = 8) (j c : Nat) (hj : j < 8) (hc : c < 256) : ((wd l &&& (18446744073709551615 - 255 * 256 ^ j)) ||| (c * 256 ^ j)) = wd (l.set j c) := by
  have b255 : Bt ((List.replicate 8 255).set j 0) := bt_set (fun x hx => by rw [List.eq_of_mem_replicate hx]; omega) (by omega)
  have b0 : Bt ((List.replicate 8 0).set j c) := bt_set (fun x hx => by rw [List.eq_of_mem_replicate hx]; omega) hc
  have g255 : (List.replicate 8 255).getD j 0 = 255 := getD_of (by rw [List.getElem?_replicate, if_pos hj])
  have g0 : (List.replicate 8 0).getD j 0 = 0 := getD_of (by rw [List.getElem?_replicate, if_pos hj])
  have m1 : wd ((List.replicate 8 255).set j 0) = 18446744073709551615 - 255 * 256 ^ j := by
    have := wd_set (List.replicate 8 255) j 0 (by simpa using hj)
    rw [g255, wd_rep] at this
    omega
  have m2 : wd ((List.replicate 8 0).set j c) = c * 256 ^ j := by
    have := wd_set (List.replicate 8 0) j c (by simpa using hj)
    rw [g0, wd_rep] at this
    omega
  have e1 : List.zipWith (· &&& ·) l ((List.replicate 8 255).set j 0) = l.set j 0 := by
    apply List.ext_getElem (by simp [h8])
    intro i h1 h2
    have hi : i < l.length := by simpa using h2
    simp only [List.getElem_zipWith, List.getElem_set, List.getElem_replicate]
    split
    · simp
    · exact byte_and ⟨l[i], hb _ (List.getElem_mem hi)⟩
  have e2 : List.zipWith (· ||| ·) (l.set j 0) ((List.replicate 8 0).set j c) = l.set j c := by
    apply List.ext_getElem (by simp [h8])
    intro i h1 h2
    simp only [List.getElem_zipWith, List.getElem_set, List.getElem_replicate]
    split <;> simp
  rw [← m1, ← m2, wd_zip (· &&& ·) rfl and256 _ _ (by simp [h8]) hb b255, e1, wd_zip (· ||| ·) rfl or256 _ _ (by simp [h8]) (bt_set hb (by omega)) b0, e2]
theorem set_bits (u j c : Nat) (hu : u < 18446744073709551616) (hj : j < 8) (hc : c < 256) (a b : Int) (ha : a = ((255 * 256 ^ j : Nat) : Int)) (hb : b = ((c * 256 ^ j : Nat) : Int)) :
    bits .or .u64 (bits .andNot .u64 (u : Int) a) b = (((u &&& (18446744073709551615 - 255 * 256 ^ j)) ||| (c * 256 ^ j) : Nat) : Int) := by
  have h1 : 256 ^ j ≤ 256 ^ 7 := Nat.pow_le_pow_right (by omega) (by omega)
  have h2 : 255 * 256 ^ j < 18446744073709551616 := by
    have := Nat.mul_le_mul_left 255 h1
    have e : 255 * 256 ^ 7 < 18446744073709551616 := by decide
    omega
  have h3 : c * 256 ^ j < 18446744073709551616 := by
    have := Nat.mul_le_mul (show c ≤ 255 by omega) h1
    have e : 255 * 256 ^ 7 < 18446744073709551616 := by decide
    omega
  rw [ha, hb, u64_andNot_nat _ _ hu h2]
  exact u64_or_nat _ _ (Nat.lt_of_le_of_lt Nat.and_le_left hu) h3
set_option maxRecDepth 100000 in
theorem gset_any (l : List Nat) (hb : Bt l) (h8 : l.length = 8) (i c : Nat) (hi : i < 1000000) (hc : c < 256) (w : World) (hg : Gs w) :
    Calls Tryz.prog 41 #[.int .u64 (wd l), .int .i64 i, .int .u8 c] w fun e w' => e = .returned (.int .u64 (wd (l.set (i % 8) c))) ∧ w' = w := by
  have hl := wd_lt8 hb h8
  have h7 : i % 8 < 8 := Nat.mod_lt _ (by omega)
  have hs := set_eq l hb h8 (i % 8) c h7 hc
  have ha := and7 i hi
  obtain ⟨t, fz, hgs⟩ := hg
  have hcl := blk_cell hgs
  obtain ⟨u, hu⟩ : ∃ u, wd l = u := ⟨_, rfl⟩
  rw [hu] at hs hl ⊢
  have hB := set_bits u (i % 8) c hl h7 hc
  rw [hs] at hB
  obtain ⟨j, hj⟩ : ∃ j, i % 8 = j := ⟨_, rfl⟩
  rw [hj] at ha h7 hB ⊢
  have HB := hid hB
  clear hB hs
  have H8 := hid hj
  clear hj
  obtain rfl | rfl | rfl | rfl | rfl | rfl | rfl | rfl : j = 0 ∨ j = 1 ∨ j = 2 ∨ j = 3 ∨ j = 4 ∨ j = 5 ∨ j = 6 ∨ j = 7 := by omega
  all_goals
    simp only [Int.cast_ofNat_Int, Int.natCast_zero] at ha
    go_enter Tryz.func41, Tryz.ntmps41
    go_wp2
    go_ret
    refine ⟨congrArg (fun z => Ending.returned (.int .u64 z)) (HB.out _ _ ?_ ?_), rfl⟩
    · simp only [Nat.reducePow, Nat.reduceMul]; try first | rfl | omega
    · simp only [Nat.reducePow, Nat.reduceMul]; try first | rfl | omega
end Go.Proofs.YtodledidabdkaaaGreatDoor

namespace Go.Proofs.YtodledidabdkaaaGreatDoor
open Go.RowKit V
set_option linter.unusedVariables false
set_option linter.unusedSimpArgs false
theorem rl_bits (x r : Nat) (hx : x < 18446744073709551616) (a b : Int) (ha : a = ((x * 2 ^ r % 18446744073709551616 : Nat) : Int)) (hb : b = ((x / 2 ^ (64 - r) : Nat) : Int)) : bits .or .u64 a b = ((rl x r : Nat) : Int) := by
  rw [ha, hb, u64_or_nat _ _ (Nat.mod_lt _ (by decide)) (Nat.lt_of_le_of_lt (Nat.div_le_self _ _) hx)]
  rfl
set_option maxRecDepth 100000 in
theorem rotl_any (x r : Nat) (hx : x < 18446744073709551616) (hr : r = 13 ∨ r = 16 ∨ r = 17 ∨ r = 21 ∨ r = 32) (w : World) :
    Calls Tryz.prog 131 #[.int .u64 x, .int .i64 r] w fun e w' => e = .returned (.int .u64 (rl x r)) ∧ w' = w := by
  have HB := hid (fun a b => rl_bits x r hx a b)
  have k1 : bits BinOp.and IntKind.u64 13 63 = 13 := by decide +kernel
  have k2 : bits BinOp.and IntKind.u64 16 63 = 16 := by decide +kernel
  have k3 : bits BinOp.and IntKind.u64 17 63 = 17 := by decide +kernel
  have k4 : bits BinOp.and IntKind.u64 21 63 = 21 := by decide +kernel
  have k5 : bits BinOp.and IntKind.u64 32 63 = 32 := by decide +kernel
  obtain rfl | rfl | rfl | rfl | rfl := hr
  all_goals
    go_enter Tryz.func131, Tryz.ntmps131
    go_wp2
    go_ret
    refine ⟨congrArg (fun z => Ending.returned (.int .u64 z)) (HB.out _ _ ?_ ?_), rfl⟩
    · first | rfl | (rw [show ∀ n : Int, IntKind.u64.wrap n = n % 18446744073709551616 from fun _ => rfl]; simp only [Nat.reducePow, Nat.reduceSub]; omega)
    · first | rfl | (simp only [Nat.reducePow, Nat.reduceSub]; omega)
set_option maxRecDepth 100000 in
theorem half_any (a b r : Nat) (ha : a < 18446744073709551616) (hb : b < 18446744073709551616) (hr : r = 13 ∨ r = 16 ∨ r = 17 ∨ r = 21) (w : World) :
    Calls Tryz.prog 130 #[.int .u64 a, .int .u64 b, .int .i64 r] w fun e w' => e = .returned (.tuple #[.int .u64 (halfA a b), .int .u64 (halfB a b r)]) ∧ w' = w := by
  have HR := hid (fun w => rotl_any b r hb (by omega) w)
  have h1 := halfA_lt a b
  have h2 : IntKind.u64.wrap ((a : Int) + (b : Int)) = ((halfA a b : Nat) : Int) := by
    rw [show ((a : Int) + (b : Int)) = ((a + b : Nat) : Int) from by omega, wrapn]; rfl
  have h3 : bits .xor .u64 ((rl b r : Nat) : Int) ((halfA a b : Nat) : Int) = ((halfB a b r : Nat) : Int) := u64_xor_nat _ _ (rl_lt hb) h1
  have hq := rl_lt (r := r) hb
  obtain ⟨x, hx⟩ : ∃ x, halfA a b = x := ⟨_, rfl⟩
  obtain ⟨y, hy⟩ : ∃ y, rl b r = y := ⟨_, rfl⟩
  rw [hx] at h1 h2 h3 ⊢
  rw [hy] at h3 HR hq
  clear hx hy hr
  have HX := hid h3
  clear h3
  go_enter Tryz.func130, Tryz.ntmps130
  go_wp2_with fail
  refine (HR.out _).mono ?_
  rintro e w' ⟨rfl, rfl⟩
  go_wp2_with fail
  refine bodyPost_ret (v := .tuple #[.int .u64 x, .int .u64 (bits .xor .u64 (y : Int) (x : Int))]) (by simp [results, Tryz.results130, go_sem]) rfl ⟨?_, rfl⟩
  exact congrArg (fun z => Ending.returned (.tuple #[.int .u64 x, .int .u64 z])) HX.out
theorem split_any (h : Nat) (hh : h < 18446744073709551616) (w : World) :
    Calls Tryz.prog 64 #[.int .u64 h] w fun e w' => e = .returned (.tuple #[.int .u64 ((h / 128 : Nat) : Int), .int .u8 ((h % 128 : Nat) : Int)]) ∧ w' = w := by
  have h1 : bits .and .u64 (h : Int) 127 = ((h % 128 : Nat) : Int) := by
    rw [show (127 : Int) = ((127 : Nat) : Int) from rfl, u64_and_nat _ _ hh (by decide), show (127 : Nat) = 2 ^ 7 - 1 from rfl, Nat.and_two_pow_sub_one_eq_mod]
  obtain ⟨x, hx⟩ : ∃ x, h % 128 = x := ⟨_, rfl⟩
  have h2 : x < 128 := by omega
  rw [hx] at h1 ⊢
  have HX := hid hx
  clear hx
  go_enter Tryz.func64, Tryz.ntmps64
  go_wp2_with fail
  exact bodyPost_ret (v := .tuple #[.int .u64 ((h / 128 : Nat) : Int), .int .u8 (x : Int)]) (by simp [results, Tryz.results64, go_sem]) rfl ⟨rfl, rfl⟩
def vc (v : V4) : Array Value := #[.int .u64 v.a, .int .u64 v.b, .int .u64 v.c, .int .u64 v.d]
set_option maxRecDepth 100000 in
set_option maxHeartbeats 1000000 in
theorem round_any (v : V4) (hv : v.ok) (w : World) :
    Calls Tryz.prog 97 #[.agg (vc v)] w fun e w' => e = .returned (.agg (vc (roundP v))) ∧ Kp All w w' := by
  obtain ⟨a, b, c, d⟩ := v
  obtain ⟨ha, hb, hc, hd⟩ := hv
  simp only at ha hb hc hd
  have b1 := halfB_lt (a := a) (r := 13) hb
  have a1 := halfA_lt a b
  have a2 := rl_lt (r := 32) a1
  have c1 := halfA_lt c d
  have d1 := halfB_lt (a := c) (r := 16) hd
  have a3 := halfA_lt (rl (halfA a b) 32) (halfB c d 16)
  have d2 := halfB_lt (a := rl (halfA a b) 32) (r := 21) d1
  have c2 := halfA_lt (halfA c d) (halfB a b 13)
  have b2 := halfB_lt (a := halfA c d) (r := 17) b1
  have c3 := rl_lt (r := 32) c2
  have HR : roundP ⟨a, b, c, d⟩ = ⟨halfA (rl (halfA a b) 32) (halfB c d 16), halfB (halfA c d) (halfB a b 13) 17, rl (halfA (halfA c d) (halfB a b 13)) 32, halfB (rl (halfA a b) 32) (halfB c d 16) 21⟩ := rfl
  rw [HR]
  have r1 := hid (fun w => half_any a b 13 ha hb (by simp) w)
  have r2 := hid (fun w => rotl_any (halfA a b) 32 a1 (by simp) w)
  have r3 := hid (fun w => half_any c d 16 hc hd (by simp) w)
  have r4 := hid (fun w => half_any (rl (halfA a b) 32) (halfB c d 16) 21 a2 d1 (by simp) w)
  have r5 := hid (fun w => half_any (halfA c d) (halfB a b 13) 17 c1 b1 (by simp) w)
  have r6 := hid (fun w => rotl_any (halfA (halfA c d) (halfB a b 13)) 32 c2 (by simp) w)
  clear HR
  generalize halfA (rl (halfA a b) 32) (halfB c d 16) = A3 at *
  generalize halfB (rl (halfA a b) 32) (halfB c d 16) 21 = D2 at *
  generalize halfB (halfA c d) (halfB a b 13) 17 = B2 at *
  generalize rl (halfA (halfA c d) (halfB a b 13)) 32 = C3 at *
  generalize halfA (halfA c d) (halfB a b 13) = C2 at *
  generalize halfB c d 16 = D1 at *
  generalize halfA c d = C1 at *
  generalize rl (halfA a b) 32 = A2 at *
  generalize halfB a b 13 = B1 at *
  generalize halfA a b = A1 at *
  unfold vc
  simp only
  go_enter Tryz.func97, Tryz.ntmps97
  go_wp2_with fail
  refine (r1.out _).mono ?_
  rintro e w1 ⟨rfl, rfl⟩
  go_wp2_with fail
  refine (r2.out _).mono ?_
  rintro e w2 ⟨rfl, rfl⟩
  go_wp2_with fail
  refine (r3.out _).mono ?_
  rintro e w3 ⟨rfl, rfl⟩
  go_wp2_with fail
  refine (r4.out _).mono ?_
  rintro e w4 ⟨rfl, rfl⟩
  go_wp2_with fail
  refine (r5.out _).mono ?_
  rintro e w5 ⟨rfl, rfl⟩
  go_wp2_with fail
  refine (r6.out _).mono ?_
  rintro e w6 ⟨rfl, rfl⟩
  go_wp2_with fail
  refine bodyPost_ret (v := .agg #[.int .u64 (A3 : Nat), .int .u64 (B2 : Nat), .int .u64 (C3 : Nat), .int .u64 (D2 : Nat)]) ?_ rfl ⟨rfl, (Kp.al _ _).trans (Kp.al _ _)⟩
  simp [results, Tryz.results97, go_sem]
end Go.Proofs.YtodledidabdkaaaGreatDoor

namespace Go.Proofs.YtodledidabdkaaaGreatDoor
open Go.RowKit V
set_option linter.unusedVariables false
set_option linter.unusedSimpArgs false
set_option maxRecDepth 100000 in
set_option maxHeartbeats 1000000 in
theorem take_any (v : V4) (hv : v.ok) (m : Nat) (hm : m < 18446744073709551616) (B : Nat) (w : World) (hB : w.heap[B]? = some (.cells (vc v) 134 (0, 0))) :
    Calls Tryz.prog 96 #[.int .u64 m, .int .i64 0, .int .i64 3, .pointer (some ⟨B, 0, none⟩)] w fun e w' => e = .returned (.tuple #[]) ∧ w'.heap[B]? = some (.cells (vc (takeP v m)) 134 (0, 0)) ∧ Kp (fun b => b ≠ B) w w' := by
  have h1 : V4.ok { v with d := v.d ^^^ m } := ⟨hv.1, hv.2.1, hv.2.2.1, xor_lt64 hv.2.2.2 hm⟩
  have h2 := round_ok h1
  have h3 := round_ok h2
  have hx1 : bits .xor .u64 (v.d : Int) (m : Int) = ((v.d ^^^ m : Nat) : Int) := u64_xor_nat _ _ hv.2.2.2 hm
  have hx2 := u64_xor_nat (roundP (roundP { v with d := v.d ^^^ m })).a m h3.1 hm
  have hT : takeP v m = { roundP (roundP { v with d := v.d ^^^ m }) with a := (roundP (roundP { v with d := v.d ^^^ m })).a ^^^ m } := rfl
  rw [hT]
  have r1 := hid (fun w => round_any { v with d := v.d ^^^ m } h1 w)
  have r2 := hid (fun w => round_any (roundP { v with d := v.d ^^^ m }) h2 w)
  clear hT h1 h2
  obtain ⟨a, b, c, d⟩ := v
  simp only at *
  generalize d ^^^ m = D at *
  generalize roundP ⟨a, b, c, D⟩ = u1 at *
  generalize roundP u1 = u2 at *
  obtain ⟨a2, b2, c2, d2⟩ := u2
  simp only at *
  generalize a2 ^^^ m = A at *
  have hd := hv.2.2.2
  have ha2 := h3.1
  simp only at hd ha2
  unfold vc at hB
  simp only at hB
  have q0 := blk_cell hB
  have f0 := blk_free hB
  have HB := hid hB
  have HX1 := hid hx1; have HX2 := hid hx2
  clear hB hv h3 hx1 hx2
  go_enter Tryz.func96, Tryz.ntmps96
  go_wp2_with fail
  rw [HX1.out]
  refine (r1.out _).mono ?_
  rintro e w1 ⟨rfl, k1⟩
  have B1 := hid (k1.heap (blk_set HB.out 3 (.int .u64 (D : Nat))) trivial)
  have K1 : Hid (Kp (fun b => b ≠ B) w w1) := hid (((Kp.refl _ w).setOut (by simp) _).then k1 (fun _ _ _ => trivial))
  clear k1
  go_wp2_with fail
  refine (r2.out _).mono ?_
  rintro e w2 ⟨rfl, k2⟩
  have hB2 := k2.heap B1.out trivial
  have K2 := hid (K1.out.then k2 (fun _ _ _ => trivial))
  clear k2
  simp only [List.setIfInBounds_toArray, List.set_cons_succ, List.set_cons_zero] at hB2
  have B2 := hid hB2
  have q2 := blk_cell hB2
  have f2 := blk_free hB2
  clear hB2 q0 f0
  unfold vc
  simp only
  go_wp2_with fail
  rw [HX2.out]
  go_end0
  exact ⟨rfl, blk_set (blk_set (blk_set (blk_set (blk_set B2.out 0 _) 1 _) 2 _) 3 _) 0 _, ((((K2.out.setOut (by simp) _).setOut (by simp) _).setOut (by simp) _).setOut (by simp) _).setOut (by simp) _⟩
theorem word_or (u : Nat) (x : UInt8) (hu : u * 256 < 18446744073709551616) (a : Int) (ha : a = ((u * 256 : Nat) : Int)) : bits .or .u64 a (x.toNat : Int) = ((x.toNat + 256 * u : Nat) : Int) := by
  have hx := x.toNat_lt
  rw [ha, u64_or_nat _ _ hu (by omega)]
  have h := or256 0 x.toNat u 0 (by omega) hx
  rw [Nat.zero_add, Nat.mul_zero, Nat.add_zero, Nat.zero_or, Nat.or_zero] at h
  rw [Nat.mul_comm u 256, h]
set_option maxRecDepth 100000 in
theorem word_any (s : ByteArray) (hs : s.data.toList.length ≤ 8) (w : World) :
    Calls Tryz.prog 98 #[.string s] w fun e w' => e = .returned (.int .u64 (wordP s.data.toList)) ∧ w' = w := by
  have hn : s.data.toList.length = s.size := by rw [Array.length_toList]; rfl
  obtain ⟨n, hN⟩ : ∃ n, s.size = n := ⟨_, rfl⟩
  rw [hN] at hn
  rw [hn] at hs
  have HN := hid hN; have HL := hid hn
  clear hn
  go_enter Tryz.func98, Tryz.ntmps98
  go_wp2_with fail
  go_loopw [3, 4] (fun u i wr => ∃ j : Nat, j ≤ n ∧ i = .int .i64 ((j : Int) - 1) ∧ u = .int .u64 ((wordP (s.data.toList.drop j) : Nat) : Int) ∧ wr = w) (fun _ i _ => (intOf i + 1).toNat)
  case atStart => exact ⟨n, Nat.le_refl _, rfl, by rw [List.drop_eq_nil_of_le (by rw [HL.out]; exact Nat.le_refl _)]; rfl, rfl⟩
  case round =>
    obtain ⟨j, hj, rfl, rfl, rfl⟩ := hrel
    match j, hj with
    | 0, _ =>
      have d0 : decide ((0 : Int) ≤ ((0 : Nat) : Int) - 1) = false := decide_eq_false (by omega)
      go_wp2_with fail
      go_ret
      exact ⟨rfl, rfl⟩
    | j + 1, hj =>
      have d0 : decide ((0 : Int) ≤ ((j + 1 : Nat) : Int) - 1) = true := decide_eq_true (by omega)
      have em : (((j + 1 : Nat) : Int) - 1) = (j : Int) := by omega
      rw [em] at d0
      rw [em]
      have hjl : j < s.data.toList.length := by rw [HL.out]; omega
      have hdr : s.data.toList.drop j = s.data.toList[j] :: s.data.toList.drop (j + 1) := List.drop_eq_getElem_cons hjl
      have hwd : wordP (s.data.toList.drop j) = (s.data.toList[j]).toNat + 256 * wordP (s.data.toList.drop (j + 1)) := by rw [hdr]; rfl
      have hul : wordP (s.data.toList.drop (j + 1)) * 256 < 18446744073709551616 := by
        have h1 := wd_lt (natsB (s.data.toList.drop (j + 1))) (bt_natsB _)
        have h2 : 256 ^ (natsB (s.data.toList.drop (j + 1))).length ≤ 256 ^ 7 := Nat.pow_le_pow_right (by omega) (by have := HL.out; simp only [natsB, List.length_map, List.length_drop]; omega)
        have h3 : wordP (s.data.toList.drop (j + 1)) < 256 ^ 7 := Nat.lt_of_lt_of_le h1 h2
        simp only [Nat.reducePow] at h3
        omega
      have HW := hid hwd
      have HU := hid hul
      have hjs : j < s.size := by omega
      have hge : s.data.toList[j] = s[j] := by rw [Array.getElem_toList]; rfl
      have HG := hid hge
      clear hwd hul hdr hge
      go_wp2_with fail
      refine ⟨⟨j, by omega, rfl, ?_, trivial⟩, by simp [intOf]⟩
      refine congrArg (Value.int .u64) ?_
      rw [HW.out, HG.out]
      have hx := (s[j]).toNat_lt
      have e1 : IntKind.u64.wrap ((s[j]).toNat : Int) = ((s[j]).toNat : Int) := by rw [wrapn, Nat.mod_eq_of_lt (by omega)]
      rw [e1]
      refine word_or _ _ HU.out _ ?_
      rw [show ((wordP (s.data.toList.drop (j + 1)) : Int) * 256) = ((wordP (s.data.toList.drop (j + 1)) * 256 : Nat) : Int) from by omega, wrapn, Nat.mod_eq_of_lt HU.out]
end Go.Proofs.YtodledidabdkaaaGreatDoor

namespace Go.Proofs.YtodledidabdkaaaGreatDoor
open Go.RowKit V
set_option linter.unusedVariables false
set_option linter.unusedSimpArgs false
theorem ext_list (t : ByteArray) (a b : Nat) : (t.extract a b).data.toList = (t.data.toList.take b).drop a := by
  rw [ByteArray.data_extract, Array.toList_extract, List.extract_eq_take_drop, List.drop_take]
theorem ba_len (t : ByteArray) : t.data.toList.length = t.size := by rw [Array.length_toList]; rfl
theorem eq_arr4 (n : Nat) (a b c d a' b' c' d' : Int) (w : World) :
    (Op.equalIn (n + 2) 134 (.agg #[.int .u64 a, .int .u64 b, .int .u64 c, .int .u64 d]) (.agg #[.int .u64 a', .int .u64 b', .int .u64 c', .int .u64 d'])).run Tryz.prog w = .ok (a == a' && (b == b' && (c == c' && d == d'))) w := by
  rw [Op.equalIn]
  simp only [Sem.run_bind, run_underlying Tryz.underlying134, Result.andThen_ok, Tryz.sizeOf22, Std.Legacy.Range.forIn_eq_forIn_range', Std.Legacy.Range.size]
  rw [show List.range' 0 ((4 - 0 + 1 - 1) / 1) = [0, 1, 2, 3] from rfl]
  have he : ∀ x y : Int, (Op.equalIn (n + 1) 22 (.int .u64 x) (.int .u64 y)).run Tryz.prog w = .ok (x == y) w := fun x y => run_equalIn_int w n _ _ _ x y Tryz.underlying22
  have hp : ∀ (cs : Array Value) (i : Nat) (v : Value), cs[i]? = some v → (part 22 cs i).run Tryz.prog w = .ok v w := by
    intro cs i v h
    simp [part, Tryz.isAgg22, h]
  have h0 := fun x0 x1 x2 x3 : Value => hp #[x0, x1, x2, x3] 0 x0 rfl
  have h1 := fun x0 x1 x2 x3 : Value => hp #[x0, x1, x2, x3] 1 x1 rfl
  have h2 := fun x0 x1 x2 x3 : Value => hp #[x0, x1, x2, x3] 2 x2 rfl
  have h3 := fun x0 x1 x2 x3 : Value => hp #[x0, x1, x2, x3] 3 x3 rfl
  have e0 := he a a'
  have e1 := he b b'
  have e2 := he c c'
  have e3 := he d d'
  clear he hp
  generalize (a == a') = r0 at *
  generalize (b == b') = r1 at *
  generalize (c == c') = r2 at *
  generalize (d == d') = r3 at *
  cases r0 <;> cases r1 <;> cases r2 <;> cases r3 <;> simp [List.forIn_cons, List.forIn_nil, Sem.run_bind, h0, h1, h2, h3, e0, e1, e2, e3]
def strLen : Value → Nat
  | .string s => s.size
  | _ => 0
set_option maxRecDepth 100000 in
set_option maxHeartbeats 2000000 in
theorem sum_sip (k0 k1 : Nat) (h0 : k0 < 18446744073709551616) (h1 : k1 < 18446744073709551616) (s : ByteArray) (hs : s.size ≤ 9000000000000000000) (w : World) :
    Calls Tryz.prog 65 #[.agg #[.int .u64 k0, .int .u64 k1], .string s] w fun e w' => e = .returned (.int .u64 (sipP k0 k1 s)) ∧ Kp All w w' := by
  have hx : ∀ (k c : Nat), k < 18446744073709551616 → c < 18446744073709551616 → bits .xor .u64 (k : Int) (c : Int) = ((k ^^^ c : Nat) : Int) := fun k c a b => u64_xor_nat _ _ a b
  have x1 : bits .xor .u64 (k0 : Int) 8317987319222330741 = ((k0 ^^^ 8317987319222330741 : Nat) : Int) := hx _ _ h0 (by decide)
  have x2 : bits .xor .u64 (k1 : Int) 7237128888997146477 = ((k1 ^^^ 7237128888997146477 : Nat) : Int) := hx _ _ h1 (by decide)
  have x3 : bits .xor .u64 (k0 : Int) 7816392313619706465 = ((k0 ^^^ 7816392313619706465 : Nat) : Int) := hx _ _ h0 (by decide)
  have x4 : bits .xor .u64 (k1 : Int) 8387220255154660723 = ((k1 ^^^ 8387220255154660723 : Nat) : Int) := hx _ _ h1 (by decide)
  have hok := begin_ok h0 h1
  have HS : Hid (sipP k0 k1 s = endP (takeP (eatP (beginP k0 k1) s.data.toList).1 (lastM (eatP (beginP k0 k1) s.data.toList).2 s.size))) := hid (by
    unfold sipP
    rw [show s.data.toList.length = s.size from by rw [Array.length_toList]; rfl])
  have HO := hid hok
  obtain ⟨n, hN⟩ : ∃ n, s.size = n := ⟨_, rfl⟩
  rw [hN] at hs
  have HN := hid hN
  clear hx hok
  go_enter Tryz.func65, Tryz.ntmps65
  go_wp2_with fail
  clear x1 x2 x3 x4
  have hB := blk_new (w.alloc (.cells #[.int .u64 k0, .int .u64 k1] 24)) (.cells (vc (beginP k0 k1)) 134)
  rw [World.size_alloc] at hB
  unfold vc beginP at hB
  have HB := hid hB
  have HK := hid ((Kp.al w (.cells #[.int .u64 k0, .int .u64 k1] 24)).trans (Kp.al _ (.cells (vc (beginP k0 k1)) 134)))
  clear hB
  go_loopw [1] (fun x wr => ∃ (t : ByteArray) (v : V4), x = .string t ∧ t.size ≤ n ∧ Hid (eatP v t.data.toList = eatP (beginP k0 k1) s.data.toList) ∧ Hid v.ok ∧ Hid (wr.heap[w.heap.size + 1]? = some (.cells (vc v) 134 (0, 0))) ∧ Hid (Kp All w wr)) (fun x _ => strLen x)
  case atStart => exact ⟨s, beginP k0 k1, rfl, by omega, hid rfl, HO, HB, HK⟩
  case round =>
    obtain ⟨t, v, rfl, ht, hE, hV, hB, hK⟩ := hrel
    obtain ⟨m, hm⟩ : ∃ m, t.size = m := ⟨_, rfl⟩
    by_cases h8 : 8 ≤ m
    · have d0 : decide ((8 : Int) ≤ (m : Int)) = true := decide_eq_true (by omega)
      have hl8 : (t.extract 0 8).data.toList = t.data.toList.take 8 := by rw [ext_list]; rfl
      have HW := hid (fun w => word_any (t.extract 0 8) (by rw [hl8, List.length_take]; omega) w)
      rw [hl8] at HW
      have hwl := word_lt (l := t.data.toList.take 8) (by rw [List.length_take]; omega)
      have HT := hid (fun w' hB' => take_any v hV.out (wordP (t.data.toList.take 8)) hwl (w.heap.size + 1) w' hB')
      have hnext : eatP v t.data.toList = eatP (takeP v (wordP (t.data.toList.take 8))) (t.data.toList.drop 8) := by
        rw [eatP, dif_pos (by rw [ba_len]; omega)]
      have hOK := hid (take_ok hV.out hwl)
      have HE := hid (hnext.symm.trans hE.out)
      obtain ⟨x, hx⟩ : ∃ x, wordP (t.data.toList.take 8) = x := ⟨_, rfl⟩
      rw [hx] at HW HT hwl HE hOK
      have hml : (t.extract 8 m).data.toList = t.data.toList.drop 8 := by rw [ext_list, List.take_of_length_le (by rw [ba_len]; omega)]
      have HML := hid hml
      have hms : (t.extract 8 m).size = m - 8 := by rw [ByteArray.size_extract]; omega
      have HMS := hid hms
      clear hnext hx hl8 hml hms
      go_wp2_with fail
      refine (HW.out _).mono ?_
      rintro e w3 ⟨rfl, rfl⟩
      go_wp2_with fail
      refine (HT.out _ hB.out).mono ?_
      rintro e w4 ⟨rfl, hB4, hK4⟩
      have HB4 := hid hB4
      have HK4 := hid (hK.out.then hK4 (fun i hi _ => by omega))
      clear hB4 hK4
      go_wp2_with fail
      exact ⟨⟨_, _, rfl, by rw [HMS.out]; omega, hid (by rw [HML.out]; exact HE.out), hOK, HB4, HK4⟩, by simp only [strLen]; rw [HMS.out]; omega⟩
    · have d0 : decide ((8 : Int) ≤ (m : Int)) = false := decide_eq_false (by omega)
      have hnext : eatP v t.data.toList = (v, t.data.toList) := by
        rw [eatP, dif_neg (by rw [ba_len]; omega)]
      have HS2 : Hid (sipP k0 k1 s = endP (takeP v (lastM t.data.toList n))) := hid (by rw [HS.out, ← hE.out, hnext, HN.out])
      have htl : t.data.toList.length < 8 := by rw [ba_len]; omega
      have HW := hid (fun w => word_any t (by omega) w)
      have hwl := word_lt (l := t.data.toList) (by omega)
      have hll := last_lt (n := n) htl
      have HL : Hid (bits .or .u64 ((wordP t.data.toList : Nat) : Int) (IntKind.u64.wrap ((n : Int) * 72057594037927936)) = ((lastM t.data.toList n : Nat) : Int)) := hid (by
        rw [show ((n : Int) * 72057594037927936) = ((n * 72057594037927936 : Nat) : Int) from by omega, wrapn, u64_or_nat _ _ hwl (Nat.mod_lt _ (by decide))]
        rfl)
      have HT := hid (fun w' hB' => take_any v hV.out (lastM t.data.toList n) hll (w.heap.size + 1) w' hB')
      have hOK := hid (take_ok hV.out hll)
      obtain ⟨x, hx⟩ : ∃ x, wordP t.data.toList = x := ⟨_, rfl⟩
      obtain ⟨y, hy⟩ : ∃ y, lastM t.data.toList n = y := ⟨_, rfl⟩
      rw [hx] at HW hwl HL
      rw [hy] at HS2 HL HT hOK hll
      clear hnext hx hy htl hE
      go_wp2_with fail
      refine (HW.out _).mono ?_
      rintro e w3 ⟨rfl, rfl⟩
      go_wp2_with fail
      rw [HL.out]
      refine (HT.out _ hB.out).mono ?_
      rintro e w4 ⟨rfl, hB4, hK4⟩
      obtain ⟨⟨a, b, c, d⟩, hu⟩ : ∃ u, takeP v y = u := ⟨_, rfl⟩
      rw [hu] at hB4 HS2 hOK
      clear hu HT
      have q4 := blk_cell hB4
      have f4 := blk_free hB4
      have HB4 := hid hB4
      have HK4 := hid (hK.out.then hK4 (fun i hi _ => by omega))
      clear hB4 hK4
      have hcc := hOK.out.2.2.1
      have HX := hid (show bits .xor .u64 (c : Int) 255 = ((c ^^^ 255 : Nat) : Int) from u64_xor_nat c 255 hcc (by decide))
      unfold vc at q4
      simp only at q4
      go_wp2_with fail
      rw [HX.out]
      have hC : c ^^^ 255 < 18446744073709551616 := xor_lt64 hcc (by decide)
      obtain ⟨C, hCe⟩ : ∃ C, c ^^^ 255 = C := ⟨_, rfl⟩
      have HS3 : Hid (sipP k0 k1 s = (itR roundP 4 ⟨a, b, C, d⟩).a ^^^ (itR roundP 4 ⟨a, b, C, d⟩).b ^^^ (itR roundP 4 ⟨a, b, C, d⟩).c ^^^ (itR roundP 4 ⟨a, b, C, d⟩).d) := hid (by rw [HS2.out, ← hCe, endP])
      have hOK5 : Hid (V4.ok ⟨a, b, C, d⟩) := hid ⟨hOK.out.1, hOK.out.2.1, by rw [← hCe]; exact hC, hOK.out.2.2.2⟩
      rw [hCe]
      have HB5 := hid (blk_set HB4.out 2 (.int .u64 (C : Nat)))
      have HK5 := hid (HK4.out.setNew (b := w.heap.size + 1) (by simp) (i := 2) (.int .u64 (C : Nat)))
      clear HX hC hCe hOK HB4 HK4 HS2 q4 f4 hcc
      go_loopw [46] (fun i wr => ∃ (k : Nat) (v : V4), k ≤ 4 ∧ i = .int .i64 k ∧ Hid (itR roundP (4 - k) v = itR roundP 4 ⟨a, b, C, d⟩) ∧ Hid v.ok ∧ Hid (wr.heap[w.heap.size + 1]? = some (.cells (vc v) 134 (0, 0))) ∧ Hid (Kp All w wr)) (fun i _ => 4 - (intOf i).toNat)
      case atStart => exact ⟨0, _, Nat.zero_le _, rfl, hid rfl, hOK5, HB5, HK5⟩
      case round =>
        obtain ⟨k, v, hk, rfl, hE, hV, hB, hK⟩ := hrel
        by_cases h4 : k < 4
        · have d1 : decide ((k : Int) < 4) = true := decide_eq_true (by omega)
          have HR := hid (fun w => round_any v hV.out w)
          have hOK := hid (round_ok hV.out)
          have hE2 : Hid (itR roundP (4 - (k + 1)) (roundP v) = itR roundP 4 ⟨a, b, C, d⟩) := hid (by
            rw [← hE.out, show 4 - k = (4 - (k + 1)) + 1 from by omega, itR])
          obtain ⟨u, hu⟩ : ∃ u, roundP v = u := ⟨_, rfl⟩
          rw [hu] at HR hOK hE2
          clear hu hE
          have q1 := blk_cell hB.out
          obtain ⟨va, vb, vc', vd⟩ := v
          unfold vc at q1 HR
          simp only at q1 HR
          go_wp2_with fail
          refine (HR.out _).mono ?_
          rintro e w6 ⟨rfl, k6⟩
          have hB6 := k6.heap hB.out trivial
          have HK6 := hid (hK.out.trans k6)
          have q6 := blk_cell hB6
          have f6 := blk_free hB6
          have HB6 := hid hB6
          clear hB6 k6 q1
          obtain ⟨ua, ub, uc, ud⟩ := u
          unfold vc at q6
          simp only at q6
          go_wp2_with fail
          refine ⟨⟨k + 1, ⟨ua, ub, uc, ud⟩, by omega, by go_num, hE2, hOK, ?_, ?_⟩, by simp [intOf]; omega⟩
          · exact hid (blk_set (blk_set (blk_set (blk_set HB6.out 0 _) 1 _) 2 _) 3 _)
          · exact hid ((((HK6.out.setNew (by simp) _).setNew (by simp) _).setNew (by simp) _).setNew (by simp) _)
        · have d1 : decide ((k : Int) < 4) = false := decide_eq_false (by omega)
          obtain rfl : k = 4 := by omega
          have hve : v = itR roundP 4 ⟨a, b, C, d⟩ := hE.out
          rw [← hve] at HS3
          have q1 := blk_cell hB.out
          clear hve hE
          obtain ⟨va, vb, vc', vd⟩ := v
          unfold vc at q1
          simp only at q1 HS3
          have heq := eq_arr4 9998 va vb vc' vd 0 0 0 0 wr
          have hx1 := u64_xor_nat va vb hV.out.1 hV.out.2.1
          have hx2 := u64_xor_nat (va ^^^ vb) vc' (xor_lt64 hV.out.1 hV.out.2.1) hV.out.2.2.1
          have hx3 := u64_xor_nat (va ^^^ vb ^^^ vc') vd (xor_lt64 (xor_lt64 hV.out.1 hV.out.2.1) hV.out.2.2.1) hV.out.2.2.2
          cases hr : ((va : Int) == 0 && ((vb : Int) == 0 && ((vc' : Int) == 0 && (vd : Int) == 0)))
          · rw [hr] at heq
            go_wp2_with fail
            go_ret
            refine ⟨congrArg (fun z => Ending.returned (.int .u64 z)) ?_, hK.out⟩
            rw [HS3.out]
          · rw [hr] at heq
            go_wp2_with fail
            go_ret
            refine ⟨congrArg (fun z => Ending.returned (.int .u64 z)) ?_, hK.out⟩
            simp only [Bool.and_eq_true, beq_iff_eq] at hr
            obtain ⟨r1, r2, r3, r4⟩ := hr
            rw [HS3.out, show va = 0 from by omega, show vb = 0 from by omega, show vc' = 0 from by omega, show vd = 0 from by omega]
            rfl
end Go.Proofs.YtodledidabdkaaaGreatDoor
