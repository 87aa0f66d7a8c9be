/- The groups' Get and Set walked. No condition but that the numbers are of their kinds, and where the table of shifts lies. -/
import Derived.Test.YtodledidabdkaaaDoorVG
import Derived.Test.YtodledidabdkaaaDoorVC
namespace Go.Proofs.YtodledidabdkaaaDoor
open Go.RowKit V
set_option linter.unusedVariables false
set_option linter.unusedSimpArgs false
theorem i64_and_nat (a b : Nat) (ha : a < 9223372036854775808) (hb : b < 9223372036854775808) : bits .and .i64 (a : Int) (b : Int) = ((a &&& b : Nat) : Int) := by
  have hx : a &&& b < 2 ^ 63 := Nat.and_lt_two_pow _ hb
  show IntKind.i64.wrap ((BitVec.ofInt 64 (a : Int) &&& BitVec.ofInt 64 (b : Int)).toNat : Int) = _
  rw [BitVec.toNat_and, ofInt_u64 a (by omega), ofInt_u64 b (by omega), IntWalk.i64_in _ (by omega)]
theorem and7 (i : Nat) (hi : i < 1000000) : bits .and .i64 (i : Int) 7 = ((i % 8 : Nat) : Int) := by
  have e : (7 : Int) = ((7 : Nat) : Int) := rfl
  rw [e, i64_and_nat i 7 (by omega) (by decide), show (7 : Nat) = 2 ^ 3 - 1 from rfl, Nat.and_two_pow_sub_one_eq_mod]
set_option maxRecDepth 100000 in
theorem gget_any (l : List Nat) (hb : Bt l) (h8 : l.length = 8) (i : Nat) (hi : i < 1000000) (w : World) (hg : Gs w) :
    Calls Tryd.prog 62 #[.int .u64 (wd l), .int .i64 i] w fun e w' => e = .returned (.int .u8 (l.getD (i % 8) 0)) ∧ w' = w := by
  have hl := wd_lt8 hb h8
  have hw := wd_get l (i % 8) hb
  have ha := and7 i hi
  obtain ⟨t, fz, hgs⟩ := hg
  have hc := blk_cell hgs
  obtain ⟨u, hu⟩ : ∃ u, wd l = u := ⟨_, rfl⟩
  rw [hu] at hw hl ⊢
  have h7 : i % 8 < 8 := Nat.mod_lt _ (by omega)
  have HW := hid hw
  clear hw
  obtain ⟨j, hj⟩ : ∃ j, i % 8 = j := ⟨_, rfl⟩
  rw [hj] at ha h7 HW ⊢
  have H8 := hid hj
  clear hj
  obtain rfl | rfl | rfl | rfl | rfl | rfl | rfl | rfl : j = 0 ∨ j = 1 ∨ j = 2 ∨ j = 3 ∨ j = 4 ∨ j = 5 ∨ j = 6 ∨ j = 7 := by omega
  all_goals
    simp only [Int.cast_ofNat_Int, Int.natCast_zero] at ha
    go_enter Tryd.func62, Tryd.ntmps62
    go_wp2
    go_ret
    refine ⟨congrArg (fun z => Ending.returned (.int .u8 z)) ?_, rfl⟩
    have := HW.out
    simp only [Nat.reducePow] at this
    omega
theorem wd_zip (op : Nat → Nat → Nat) (h0 : op 0 0 = 0) (hop : ∀ a b q r, a < 256 → b < 256 → op (a + 256 * q) (b + 256 * r) = op a b + 256 * op q r) :
    ∀ (xs ys : List Nat), xs.length = ys.length → Bt xs → Bt ys → op (wd xs) (wd ys) = wd (List.zipWith op xs ys)
  | [], [], _, _, _ => h0
  | x :: xs, [], h, _, _ => by simp at h
  | [], y :: ys, h, _, _ => by simp at h
  | x :: xs, y :: ys, h, hx, hy => by
    simp only [wd, List.zipWith_cons_cons]
    rw [hop _ _ _ _ (hx x (List.mem_cons_self ..)) (hy y (List.mem_cons_self ..)), wd_zip op h0 hop xs ys (by simpa using h) (fun z hz => hx z (List.mem_cons_of_mem _ hz)) (fun z hz => hy z (List.mem_cons_of_mem _ hz))]
theorem byte_and : ∀ b : Fin 256, b.val &&& 255 = b.val := by decide +kernel
theorem bt_set {l : List Nat} {j c : Nat} (h : Bt l) (hc : c < 256) : Bt (l.set j c) := fun x hx => by
  rcases List.mem_or_eq_of_mem_set hx with h' | h'
  · exact h x h'
  · omega
theorem set_eq (l : List Nat) (hb : Bt l) (h8 : l.length = 8) (j c : Nat) (hj : j < 8) (hc : c < 256) : ((wd l &&& (18446744073709551615 - 255 * 256 ^ j)) ||| (c * 256 ^ j)) = wd (l.set j c) := by
  have b255 : Bt ((List.replicate 8 255).set j 0) := bt_set (fun x hx => by rw [List.eq_of_mem_replicate hx]; omega) (by omega)
  have b0 : Bt ((List.replicate 8 0).set j c) := bt_set (fun x hx => by rw [List.eq_of_mem_replicate hx]; omega) hc
  have g255 : (List.replicate 8 255).getD j 0 = 255 := getD_of (by rw [List.getElem?_replicate, if_pos hj])
  have g0 : (List.replicate 8 0).getD j 0 = 0 := getD_of (by rw [List.getElem?_replicate, if_pos hj])
  have m1 : wd ((List.replicate 8 255).set j 0) = 18446744073709551615 - 255 * 256 ^ j := by
    have := wd_set (List.replicate 8 255) j 0 (by simpa using hj)
    rw [g255, wd_rep] at this
    omega
  have m2 : wd ((List.replicate 8 0).set j c) = c * 256 ^ j := by
    have := wd_set (List.replicate 8 0) j c (by simpa using hj)
    rw [g0, wd_rep] at this
    omega
  have e1 : List.zipWith (· &&& ·) l ((List.replicate 8 255).set j 0) = l.set j 0 := by
    apply List.ext_getElem (by simp [h8])
    intro i h1 h2
    have hi : i < l.length := by simpa using h2
    simp only [List.getElem_zipWith, List.getElem_set, List.getElem_replicate]
    split
    · simp
    · exact byte_and ⟨l[i], hb _ (List.getElem_mem hi)⟩
  have e2 : List.zipWith (· ||| ·) (l.set j 0) ((List.replicate 8 0).set j c) = l.set j c := by
    apply List.ext_getElem (by simp [h8])
    intro i h1 h2
    simp only [List.getElem_zipWith, List.getElem_set, List.getElem_replicate]
    split <;> simp
  rw [← m1, ← m2, wd_zip (· &&& ·) rfl and256 _ _ (by simp [h8]) hb b255, e1, wd_zip (· ||| ·) rfl or256 _ _ (by simp [h8]) (bt_set hb (by omega)) b0, e2]
theorem set_bits (u j c : Nat) (hu : u < 18446744073709551616) (hj : j < 8) (hc : c < 256) (a b : Int) (ha : a = ((255 * 256 ^ j : Nat) : Int)) (hb : b = ((c * 256 ^ j : Nat) : Int)) :
    bits .or .u64 (bits .andNot .u64 (u : Int) a) b = (((u &&& (18446744073709551615 - 255 * 256 ^ j)) ||| (c * 256 ^ j) : Nat) : Int) := by
  have h1 : 256 ^ j ≤ 256 ^ 7 := Nat.pow_le_pow_right (by omega) (by omega)
  have h2 : 255 * 256 ^ j < 18446744073709551616 := by
    have := Nat.mul_le_mul_left 255 h1
    have e : 255 * 256 ^ 7 < 18446744073709551616 := by decide
    omega
  have h3 : c * 256 ^ j < 18446744073709551616 := by
    have := Nat.mul_le_mul (show c ≤ 255 by omega) h1
    have e : 255 * 256 ^ 7 < 18446744073709551616 := by decide
    omega
  rw [ha, hb, u64_andNot_nat _ _ hu h2]
  exact u64_or_nat _ _ (Nat.lt_of_le_of_lt Nat.and_le_left hu) h3
set_option maxRecDepth 100000 in
theorem gset_any (l : List Nat) (hb : Bt l) (h8 : l.length = 8) (i c : Nat) (hi : i < 1000000) (hc : c < 256) (w : World) (hg : Gs w) :
    Calls Tryd.prog 38 #[.int .u64 (wd l), .int .i64 i, .int .u8 c] w fun e w' => e = .returned (.int .u64 (wd (l.set (i % 8) c))) ∧ w' = w := by
  have hl := wd_lt8 hb h8
  have h7 : i % 8 < 8 := Nat.mod_lt _ (by omega)
  have hs := set_eq l hb h8 (i % 8) c h7 hc
  have ha := and7 i hi
  obtain ⟨t, fz, hgs⟩ := hg
  have hcl := blk_cell hgs
  obtain ⟨u, hu⟩ : ∃ u, wd l = u := ⟨_, rfl⟩
  rw [hu] at hs hl ⊢
  have hB := set_bits u (i % 8) c hl h7 hc
  rw [hs] at hB
  obtain ⟨j, hj⟩ : ∃ j, i % 8 = j := ⟨_, rfl⟩
  rw [hj] at ha h7 hB ⊢
  have HB := hid hB
  clear hB hs
  have H8 := hid hj
  clear hj
  obtain rfl | rfl | rfl | rfl | rfl | rfl | rfl | rfl : j = 0 ∨ j = 1 ∨ j = 2 ∨ j = 3 ∨ j = 4 ∨ j = 5 ∨ j = 6 ∨ j = 7 := by omega
  all_goals
    simp only [Int.cast_ofNat_Int, Int.natCast_zero] at ha
    go_enter Tryd.func38, Tryd.ntmps38
    go_wp2
    go_ret
    refine ⟨congrArg (fun z => Ending.returned (.int .u64 z)) (HB.out _ _ ?_ ?_), rfl⟩
    · simp only [Nat.reducePow, Nat.reduceMul]; try first | rfl | omega
    · simp only [Nat.reducePow, Nat.reduceMul]; try first | rfl | omega
end Go.Proofs.YtodledidabdkaaaDoor
