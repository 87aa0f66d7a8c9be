/- The groups' functions walked: words of eight bytes. No condition but that the numbers are of their kinds, and where the table of shifts lies. -/
import Derived.Test.YtodledidabdkaaaDoorBY
import Derived.Test.YtodledidabdkaaaDoorVA
import Derived.Test.YtodledidabdkaaaDoorVL
import Derived.Laws.BitsAllLaws
namespace Go.Proofs.YtodledidabdkaaaDoor
open Go.RowKit V
set_option linter.unusedVariables false
set_option linter.unusedSimpArgs false
/-- The table of shifts lies. -/
def Gs (w : World) : Prop := ∃ t fz, w.heap[0]? = some (.cells #[.int .u64 0, .int .u64 8, .int .u64 16, .int .u64 24, .int .u64 32, .int .u64 40, .int .u64 48, .int .u64 56] t fz)
theorem Gs.kept {S : Nat → Prop} {w w' : World} (h : Gs w) (k : Kp S w w') (hs : S 0) : Gs w' := by
  obtain ⟨t, fz, e⟩ := h
  exact ⟨t, fz, k.heap e hs⟩
theorem Gs.all {w w' : World} (h : Gs w) (k : Kp All w w') : Gs w' := h.kept k trivial
theorem u64_not (x : Nat) (h : x < 18446744073709551616) : bits .xor .u64 IntKind.u64.max (x : Int) = ((18446744073709551615 - x : Nat) : Int) := by
  have e : IntKind.u64.max = ((18446744073709551615 : Nat) : Int) := by rfl
  rw [e, u64_xor_nat _ _ (by omega) h]
  congr 1
  apply Nat.eq_of_testBit_eq
  intro i
  have h1 : (18446744073709551615 : Nat) = 2 ^ 64 - 1 := by decide
  have h2 : 18446744073709551615 - x = 2 ^ 64 - (x + 1) := by omega
  rw [h2, Nat.testBit_two_pow_sub_succ h, Nat.testBit_xor, h1, Nat.testBit_two_pow_sub_one]
  by_cases hi : i < 64
  · simp [hi]
  · have : x.testBit i = false := Nat.testBit_lt_two_pow (Nat.lt_of_lt_of_le h (Nat.pow_le_pow_right (by omega) (by omega) : 2 ^ 64 ≤ 2 ^ i))
    simp [hi, this]
theorem wrapn (n : Nat) : IntKind.u64.wrap (n : Int) = ((n % 18446744073709551616 : Nat) : Int) := by
  show ((n : Int)) % 18446744073709551616 = _
  omega
theorem wrapn8 (n : Nat) : IntKind.u8.wrap (n : Int) = ((n % 256 : Nat) : Int) := by
  show ((n : Int)) % 256 = _
  omega
theorem zeros_bits (u : Nat) (h1 : ((((u &&& 9187201950435737471) + 9187201950435737471) ||| u) ||| 9187201950435737471) ≤ 18446744073709551615) (h2 : (u &&& 9187201950435737471) + 9187201950435737471 < 18446744073709551616) (hl : u < 18446744073709551616) :
    bits .xor .u64 IntKind.u64.max (bits .or .u64 (bits .or .u64 (IntKind.u64.wrap (bits .and .u64 (u : Int) 9187201950435737471 + 9187201950435737471)) (u : Int)) 9187201950435737471) = ((18446744073709551615 - ((((u &&& 9187201950435737471) + 9187201950435737471) ||| u) ||| 9187201950435737471) : Nat) : Int) := by
  have e1 : bits .and .u64 (u : Int) 9187201950435737471 + 9187201950435737471 = (((u &&& 9187201950435737471) + 9187201950435737471 : Nat) : Int) := by
    have e0 : bits .and .u64 (u : Int) 9187201950435737471 = ((u &&& 9187201950435737471 : Nat) : Int) := u64_and_nat u 9187201950435737471 hl (by decide)
    rw [e0]
    generalize u &&& 9187201950435737471 = x
    omega
  rw [e1, wrapn, Nat.mod_eq_of_lt h2, u64_or_nat _ _ h2 hl]
  have h3 : ((u &&& 9187201950435737471) + 9187201950435737471 ||| u) < 18446744073709551616 := Nat.or_lt_two_pow (n := 64) h2 hl
  rw [show (9187201950435737471 : Int) = ((9187201950435737471 : Nat) : Int) from rfl, u64_or_nat _ _ h3 (by decide), u64_not _ (by omega)]
set_option maxRecDepth 100000 in
theorem zeros_any (l : List Nat) (hb : Bt l) (h8 : l.length = 8) (w : World) :
    Calls Tryd.prog 86 #[.int .u64 (wd l)] w fun e w' => e = .returned (.int .u64 (wd (l.map fun b => if b = 0 then 128 else 0))) ∧ w' = w := by
  obtain ⟨h1, h2, h3⟩ := zeros_eq l hb h8
  have hl := wd_lt8 hb h8
  obtain ⟨u, hu⟩ : ∃ u, wd l = u := ⟨_, rfl⟩
  rw [hu] at h1 h2 h3 hl ⊢
  have HE := hid (zeros_bits u h1 h2 hl)
  have H3 := hid h3
  clear h1 h2 h3
  go_enter Tryd.func86, Tryd.ntmps86
  go_wp2
  go_ret
  refine ⟨congrArg (fun z => Ending.returned (.int .u64 z)) (HE.out.trans ?_), rfl⟩
  rw [H3.out]
theorem gather_bits (u : Nat) (hl : u < 18446744073709551616) :
    IntKind.u8.wrap (IntKind.u64.wrap (bits .and .u64 (u : Int) 9259542123273814144 / 128 * 72624976668147840) / 72057594037927936) = ((((u &&& 9259542123273814144) / 128 * 72624976668147840) % 18446744073709551616 / 72057594037927936 : Nat) : Int) := by
  have e1 : bits .and .u64 (u : Int) 9259542123273814144 = ((u &&& 9259542123273814144 : Nat) : Int) := u64_and_nat u 9259542123273814144 hl (by decide)
  rw [e1]
  obtain ⟨x, hx⟩ : ∃ x, (u &&& 9259542123273814144) = x := ⟨_, rfl⟩
  rw [hx, show ((x : Int) / 128 * 72624976668147840) = ((x / 128 * 72624976668147840 : Nat) : Int) from by omega, wrapn]
  obtain ⟨y, hy⟩ : ∃ y, x / 128 * 72624976668147840 = y := ⟨_, rfl⟩
  rw [hy]
  show (((y % 18446744073709551616 : Nat) : Int) / 72057594037927936) % 256 = _
  omega
set_option maxRecDepth 100000 in
theorem gather_any (l : List Nat) (hb : Bt l) (h8 : l.length = 8) (w : World) :
    Calls Tryd.prog 85 #[.int .u64 (wd l)] w fun e w' => e = .returned (.int .u8 (bitsOf (fun b => decide (128 ≤ b)) l)) ∧ w' = w := by
  have h3 := gather_eq l hb h8
  have hl := wd_lt8 hb h8
  obtain ⟨u, hu⟩ : ∃ u, wd l = u := ⟨_, rfl⟩
  rw [hu] at h3 hl ⊢
  have HE := hid (gather_bits u hl)
  have H3 := hid h3
  clear h3
  go_enter Tryd.func85, Tryd.ntmps85
  go_wp2
  go_ret
  refine ⟨congrArg (fun z => Ending.returned (.int .u8 z)) (HE.out.trans ?_), rfl⟩
  rw [H3.out]
theorem xor_lt8 {a b : Nat} (ha : a < 256) (hb : b < 256) : a ^^^ b < 256 := Nat.xor_lt_two_pow (n := 8) ha hb
theorem ite_lt (b : Nat) : (if b = 0 then 128 else 0) < 256 := by split <;> omega
theorem bt_map {l : List Nat} {f : Nat → Nat} (h : ∀ b ∈ l, f b < 256) : Bt (l.map f) := by
  intro x hx
  obtain ⟨b, hb, rfl⟩ := List.mem_map.1 hx
  exact h b hb
set_option maxRecDepth 100000 in
theorem match_any (l : List Nat) (hb : Bt l) (h8 : l.length = 8) (h : Nat) (hh : h < 256) (w : World) :
    Calls Tryd.prog 57 #[.int .u64 (wd l), .int .u8 h] w fun e w' => e = .returned (.int .u8 (bitsOf (fun b => b == h) l)) ∧ w' = w := by
  have hl := wd_lt8 hb h8
  have hx := match_xor l hb h8 h hh
  have hm := match_eq l hb h8 h hh
  have hb2 : Bt (l.map fun b => b ^^^ h) := bt_map (f := fun b => b ^^^ h) fun b hb' => xor_lt8 (hb b hb') hh
  have hb3 : Bt ((l.map fun b => b ^^^ h).map fun b => if b = 0 then 128 else 0) := bt_map (f := fun b => if b = 0 then 128 else 0) fun b _ => ite_lt b
  have hm7 : 72340172838076673 * h < 18446744073709551616 := by omega
  have hc7 : (72340172838076673 * (h : Int)) = ((72340172838076673 * h : Nat) : Int) := by omega
  have e1 : bits .xor .u64 (wd l : Int) (72340172838076673 * (h : Int)) = ((wd (l.map fun b => b ^^^ h) : Nat) : Int) := by
    rw [hc7, u64_xor_nat (wd l) (72340172838076673 * h) hl hm7]
    exact congrArg Nat.cast hx
  clear hm7 hc7
  have HE := hid e1; have HM := hid hm; have HL8 := hid h8
  have HZ := hid (fun w => zeros_any (l.map fun b => b ^^^ h) hb2 (by simpa using h8) w)
  have HG := hid (fun w => gather_any ((l.map fun b => b ^^^ h).map fun b => if b = 0 then 128 else 0) hb3 (by simpa using h8) w)
  clear e1 hx hm hb2 hb3
  obtain ⟨L1, hL1⟩ : ∃ L1, (l.map fun b => b ^^^ h) = L1 := ⟨_, rfl⟩
  rw [hL1] at HE HM HZ HG
  obtain ⟨L2, hL2⟩ : ∃ L2, (L1.map fun b => if b = 0 then 128 else 0) = L2 := ⟨_, rfl⟩
  rw [hL2] at HM HZ HG
  clear hL1 hL2
  obtain ⟨u, hu⟩ : ∃ u, wd l = u := ⟨_, rfl⟩
  rw [hu] at HE hl ⊢
  go_enter Tryd.func57, Tryd.ntmps57
  go_wp2_with (first | (go_at_call 86; rw [HE.out]; refine (HZ.out _).mono ?_; rintro e w' ⟨rfl, rfl⟩) | (go_at_call 85; refine (HG.out _).mono ?_; rintro e w' ⟨rfl, rfl⟩))
  go_ret
  rw [HM.out]
  exact ⟨rfl, rfl⟩
set_option maxRecDepth 100000 in
theorem empties_any (l : List Nat) (hb : Bt l) (h8 : l.length = 8) (w : World) :
    Calls Tryd.prog 37 #[.int .u64 (wd l)] w fun e w' => e = .returned (.int .u8 (bitsOf (fun b => b == 128) l)) ∧ w' = w := by
  have HM := hid (fun w => match_any l hb h8 128 (by omega) w)
  obtain ⟨u, hu⟩ : ∃ u, wd l = u := ⟨_, rfl⟩
  rw [hu] at HM ⊢
  go_enter Tryd.func37, Tryd.ntmps37
  go_wp2_with (go_at_call 57; refine (HM.out _).mono ?_; rintro e w' ⟨rfl, rfl⟩)
  go_ret
  exact ⟨rfl, rfl⟩
theorem u8_or_nat' : ∀ a b : Nat, a < 256 → b < 256 → bits .or .u8 (a : Int) (b : Int) = ((a ||| b : Nat) : Int) := fun a b ha hb => by
  have := @u8_or_nat a b (by omega) (by omega)
  exact this
set_option maxRecDepth 100000 in
theorem free_any (l : List Nat) (hb : Bt l) (h8 : l.length = 8) (w : World) :
    Calls Tryd.prog 61 #[.int .u64 (wd l)] w fun e w' => e = .returned (.int .u8 (bitsOf (fun b => b == 128 || b == 254) l)) ∧ w' = w := by
  have HM := hid (show ∀ w, Calls Tryd.prog 57 #[.int .u64 (wd l), .int .u8 128] w fun e w' => e = .returned (.int .u8 (bitsOf (fun b => b == 128) l)) ∧ w' = w from fun w => match_any l hb h8 128 (by omega) w)
  have HN := hid (show ∀ w, Calls Tryd.prog 57 #[.int .u64 (wd l), .int .u8 254] w fun e w' => e = .returned (.int .u8 (bitsOf (fun b => b == 254) l)) ∧ w' = w from fun w => match_any l hb h8 254 (by omega) w)
  have b1 := bits_lt (fun b => b == 128) l
  have b2 := bits_lt (fun b => b == 254) l
  have b3 := bits_or (fun b => b == 128) (fun b => b == 254) l
  rw [h8] at b1 b2
  obtain ⟨u, hu⟩ : ∃ u, wd l = u := ⟨_, rfl⟩
  obtain ⟨x, hx⟩ : ∃ x, bitsOf (fun b => b == 128) l = x := ⟨_, rfl⟩
  obtain ⟨y, hy⟩ : ∃ y, bitsOf (fun b => b == 254) l = y := ⟨_, rfl⟩
  rw [hx] at HM b1 b3
  rw [hy] at HN b2 b3
  rw [hu] at HM HN ⊢
  have HO := hid (u8_or_nat' x y b1 b2)
  have H3 := hid b3
  have c1 : x < 256 := b1
  have c2 : y < 256 := b2
  clear b3 b1 b2
  go_enter Tryd.func61, Tryd.ntmps61
  go_wp2_with fail
  refine (HM.out _).mono ?_
  rintro e w' ⟨rfl, rfl⟩
  go_wp2_with fail
  refine (HN.out _).mono ?_
  rintro e w' ⟨rfl, rfl⟩
  go_wp2_with fail
  go_ret
  exact ⟨congrArg (fun z => Ending.returned (.int .u8 z)) (by rw [HO.out, H3.out]), rfl⟩
theorem not_full (l : List Nat) (hb : Bt l) (h8 : l.length = 8) : 18446744073709551615 - wd l = wd (l.map fun b => 255 - b) ∧ bitsOf (fun b => decide (128 ≤ b)) (l.map fun b => 255 - b) = bitsOf (fun b => decide (b < 128)) l := by
  constructor
  · have h1 : wd (l.map fun b => b) + wd (l.map fun b => 255 - b) = 18446744073709551615 := by
      rw [wd_add]
      have e : wd (l.map fun b => b + (255 - b)) = wd (l.map fun _ => 255) := wd_congr fun b hb' => by have := hb b hb'; omega
      rw [e, wd_mapc h8]
    rw [V.map_id'] at h1
    omega
  · clear h8
    induction l with
    | nil => rfl
    | cons b r ih =>
      have h1 := hb b (List.mem_cons_self ..)
      simp only [bitsOf, List.map_cons, decide_eq_true_eq]
      rw [ih (fun x hx => hb x (List.mem_cons_of_mem _ hx))]
      congr 1
      by_cases h : b < 128
      · rw [if_pos h, if_pos (by omega)]
      · rw [if_neg h, if_neg (by omega)]
set_option maxRecDepth 100000 in
theorem gfull_any (l : List Nat) (hb : Bt l) (h8 : l.length = 8) (w : World) :
    Calls Tryd.prog 88 #[.int .u64 (wd l)] w fun e w' => e = .returned (.int .u8 (bitsOf (fun b => decide (b < 128)) l)) ∧ w' = w := by
  obtain ⟨n1, n2⟩ := not_full l hb h8
  have HG := hid (fun w => gather_any (l.map fun b => 255 - b) (bt_map fun b hb' => by have := hb b hb'; omega) (by simpa using h8) w)
  have hl := wd_lt8 hb h8
  have hn := u64_not (wd l) hl
  rw [n1] at hn
  rw [n2] at HG
  obtain ⟨u, hu⟩ : ∃ u, wd l = u := ⟨_, rfl⟩
  rw [hu] at hn hl ⊢
  have HN := hid hn
  clear hn
  go_enter Tryd.func88, Tryd.ntmps88
  go_wp2_with (go_at_call 85; rw [HN.out]; refine (HG.out _).mono ?_; rintro e w' ⟨rfl, rfl⟩)
  go_ret
  exact ⟨rfl, rfl⟩
/-- the lowest of a set -/
theorem tz_els : ∀ s : Fin 256, s.val ≠ 0 → (els s.val).head? = some (Lib.trailingZeros8 s.val) := by decide +kernel
theorem next_bits : ∀ s : Fin 256, s.val ≠ 0 → bits .and .u8 (s.val : Int) ((s.val : Int) - 1) = ((s.val &&& (s.val - 1) : Nat) : Int) := by decide +kernel
set_option maxRecDepth 100000 in
theorem first_any (s i : Nat) (r : List Nat) (hs : s < 256) (h : els s = i :: r) (w : World) :
    Calls Tryd.prog 59 #[.int .u8 s] w fun e w' => e = .returned (.int .i64 i) ∧ w' = w := by
  have h0 : s ≠ 0 := fun e => by rw [e, els_zero] at h; cases h
  have h1 := tz_els ⟨s, hs⟩ h0
  simp only [h, List.head?_cons, Option.some.injEq] at h1
  have HT := hid (fun w => Any.bits_TrailingZeros8 Tryd.tz8 s w (by omega) (by omega))
  rw [show ((s : Int)).toNat = s from rfl] at HT
  subst h1
  go_enter Tryd.func59, Tryd.ntmps59
  go_wp2_with (go_at_call 87; refine (HT.out _).mono ?_; rintro e w' ⟨rfl, rfl⟩)
  go_ret
  exact ⟨rfl, rfl⟩
set_option maxRecDepth 100000 in
theorem next_any (s i : Nat) (r : List Nat) (hs : s < 256) (h : els s = i :: r) (w : World) :
    Calls Tryd.prog 58 #[.int .u8 s] w fun e w' => ∃ s', e = .returned (.int .u8 (s' : Nat)) ∧ s' < 256 ∧ els s' = r ∧ w' = w := by
  have h0 : s ≠ 0 := fun e => by rw [e, els_zero] at h; cases h
  obtain ⟨j, h1, _⟩ := els_next ⟨s, hs⟩ h0
  simp only at h1
  have hr : els (s &&& (s - 1)) = r := by
    rw [h1] at h
    injection h
  have hn := next_bits ⟨s, hs⟩ h0
  simp only at hn
  have HN := hid hn
  have HR := hid hr
  clear h h1 hn hr
  go_enter Tryd.func58, Tryd.ntmps58
  go_wp2
  go_ret
  exact ⟨s &&& (s - 1), congrArg (fun z => Ending.returned (.int .u8 z)) HN.out, Nat.lt_of_le_of_lt Nat.and_le_left hs, HR.out, rfl⟩
end Go.Proofs.YtodledidabdkaaaDoor
