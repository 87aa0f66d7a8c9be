/- DiskFails: the law's walk. No condition but that the bytes lie as they were given. -/
import Derived.Test.YtdlbccjimdghkaaEO
namespace Go.Proofs.Ytdlbccjimdghkaa
open Go.RowKit
set_option linter.unusedVariables false
set_option linter.unusedSimpArgs false
/-- the law's world: the disk alone -/
structure DW (w0 w : World) (p : Nat) (ro : Nat → Role) (D : DS) : Prop where
  dk : Dk w p ro D
  kp : Kp All w0 w
  rn : ∀ b, b < w0.heap.size → ro b = .none
theorem DW.next {w0 w w' : World} {p : Nat} {ro : Nat → Role} {D D' : DS} (h : DW w0 w p ro D) (n : Nx w ro p D' w') : ∃ ro', DW w0 w' p ro' D' := by
  obtain ⟨ro', h1, h2, h3⟩ := n
  exact ⟨ro', h1, h.kp.then h3 (fun i hi _ => h.rn i hi), fun b hb => h2 b (Nat.lt_of_lt_of_le hb h.kp.size) (h.rn b hb)⟩
theorem DW.all {w0 w w' : World} {p : Nat} {ro : Nat → Role} {D : DS} (h : DW w0 w p ro D) (k : Kp All w w') : DW w0 w' p ro D := ⟨h.dk.all k, h.kp.trans k, h.rn⟩
theorem DW.foot {w0 w : World} {p : Nat} {ro : Nat → Role} {D : DS} {P : World → Prop} (h : DW w0 w p ro D) (hP : Foot All P w0) : Foot (fun k => ro k = .none) P w := fun u hu => hP u (h.kp.then hu fun i hi _ => h.rn i hi)
set_option maxRecDepth 100000 in
set_option maxHeartbeats 4000000 in
theorem fails_true (n : Nat) (k : Int) (hk : k ≤ 9223372036854775807) (A : Option Addr) (c : Nat) (d : By) (l : Nat) (hl : d.length = l) (hll : l ≤ 140737488351232) (w : World) (hs : Foot All (Sl A l c 1 (u8s d)) w) :
    Calls Try.prog 5 #[.int .u64 n, .int .i64 k, .slice A l c] w (Boo true w) := by
  have HS := hid hs; have HL := hid hl
  obtain ⟨q, hq⟩ : ∃ q : Nat, (n : Int) % 20 = q := ⟨(n % 20), by omega⟩
  have hq19 : q ≤ 19 := by omega
  have hq1 : (0 : Int) ≤ (n : Int) := by omega
  clear hs hl
  go_enter Try.func5, Try.ntmps5
  go_wp2_with fail
  have HQ := hid hq
  clear hq
  refine (dnew_any 10000 (by omega) (by omega) w).mono ?_
  rintro e w0 ⟨⟨p, ro0, rfl, hd0, hro0⟩, hk0⟩
  have HW : Hid (DW w w0 p ro0 ⟨10000, false, 0, 0, 0, [], []⟩) := hid ⟨hd0, hk0, hro0⟩
  clear hd0 hk0 hro0
  by_cases h1000 : 1000 < l
  · have h1i : (1000 : Int) < (l : Int) := by omega
    go_wp2_with fail
    refine (lives_true _).mono ?_
    rintro e w2 ⟨rfl, hk⟩
    have HK := hid hk
    clear hk
    go_wp2_with fail
    go_ret
    exact ⟨rfl, HW.out.kp.trans HK.out⟩
  have h1i : (l : Int) ≤ 1000 := by omega
  have h1d : decide ((1000 : Int) < (l : Int)) = false := decide_eq_false (by omega)
  go_wp2_with fail
  refine (create_any p ro0 _ (f_ok (by decide) (by decide) (by decide) (by decide)) na (by decide) w0 HW.out.dk).mono ?_
  rw [f_create.1, f_create.2]
  rintro e w1 ⟨rfl, hnx⟩
  (obtain ⟨ro1, hdw1⟩ := HW.out.next hnx; have HW1 := hid hdw1; clear hnx hdw1 HW; have HW := HW1; clear HW1)
  go_wp2_with fail
  refine (arm_any p ro1 _ (1 + (q : Int)) k hk w1 HW.out.dk).mono ?_
  rw [(f_arm q k d).1, (f_arm q k d).2]
  rintro e w2 ⟨rfl, hnx⟩
  (obtain ⟨ro2, hdw2⟩ := HW.out.next hnx; have HW2 := hid hdw2; clear hnx hdw2 HW; have HW := HW2; clear HW2)
  go_wp2_with fail
  go_loopw [9] (fun i wr => ∃ (j : Nat) (ro : Nat → Role), j ≤ q ∧ i = .int .i64 (1 + (j : Int)) ∧ Hid (DW w wr p ro (FS q k d j))) (fun i _ => 1 + q - (intOf i).toNat)
  case atStart => exact ⟨0, ro2, Nat.zero_le _, rfl, HW.out⟩
  case round =>
    obtain ⟨j, ro, hj, rfl, hDW⟩ := hrel
    by_cases hlt : j < q
    · have hb0 : decide (1 + (j : Int) < 1 + (q : Int)) = true := decide_eq_true (by omega)
      have hb1 : (1 : Int) + (j : Int) < 1 + (q : Int) := by omega
      obtain ⟨ha1, ha2⟩ := f_app (q := q) (k := k) (d := d) hlt hq19 (by rw [HL.out]; omega)
      have HA1 := hid ha1; have HA2 := hid ha2
      have hok : (FS q k d j).Ok := f_ok (by unfold FS; simp only; omega) (by unfold FS; simp only; omega) (by unfold FS; simp only; omega) (by unfold FS; simp; omega)
      have HOK := hid hok
      have hap := append_any p ro (FS q k d j) hok na d A c wr hDW.out.dk (hDW.out.foot (by have := HS.out; rw [← HL.out] at this; exact this)) (by rw [HL.out]; omega)
      rw [HL.out] at hap
      have HAP := hid hap
      clear ha1 ha2 hok hap
      go_wp2_with fail
      refine HAP.out.mono ?_
      rw [HA1.out, HA2.out]
      rintro e w3 ⟨rfl, hnx⟩
      have HW := hDW
      (obtain ⟨ro3, hdw3⟩ := HW.out.next hnx; have HW3 := hid hdw3; clear hnx hdw3 HW; have HW := HW3; clear HW3)
      go_wp2_with fail
      exact ⟨⟨j + 1, ro3, by omega, by go_num, HW.out⟩, by simp [intOf]; omega⟩
    · have hb0 : decide (1 + (j : Int) < 1 + (q : Int)) = false := decide_eq_false (by omega)
      have hb1 : ¬ (1 : Int) + (j : Int) < 1 + (q : Int) := by omega
      obtain rfl : j = q := by omega
      have HW := hDW
      have hok : (FS j k d j).Ok := f_ok (by unfold FS; simp only; omega) (by unfold FS; simp only; omega) (by unfold FS; simp only; omega) (by unfold FS; simp; omega)
      have HOK := hid hok
      have HOF := hid (f_off (D := FC j k d) rfl nb)
      have HOKC : Hid (FC j k d).Ok := hid (f_ok (by unfold FC; simp only; omega) (by unfold FC; simp only; omega) (by unfold FC; simp only; omega) (by unfold FC; simp))
      clear hok
      go_wp2_with fail
      refine (sync_any p ro (FS j k d j) HOK.out wr HW.out.dk).mono ?_
      rw [f_sync.1, f_sync.2]
      rintro e w3 ⟨rfl, hnx⟩
      (obtain ⟨ro3, hdw3⟩ := HW.out.next hnx; have HW3 := hid hdw3; clear hnx hdw3 HW; have HW := HW3; clear HW3)
      go_wp2_with fail
      obtain ⟨m3, fp3, bv3, BV3, hD3⟩ := HW.out.dk
      refine (on_any p m3 (FC j k d) _ bv3 w3 hD3.cell).mono ?_
      rw [show (!(FC j k d).off) = false from rfl]
      rintro e w4 ⟨rfl, rfl⟩
      clear hD3
      go_wp2_with fail
      refine (sync_any p ro3 (FC j k d) HOKC.out w3 HW.out.dk).mono ?_
      rw [HOF.out.1, HOF.out.2.1]
      rintro e w4 ⟨rfl, hnx⟩
      (obtain ⟨ro4, hdw4⟩ := HW.out.next hnx; have HW4 := hid hdw4; clear hnx hdw4 HW; have HW := HW4; clear HW4)
      go_wp2_with fail
      refine (create_any p ro4 (FC j k d) HOKC.out nb (by decide) w4 HW.out.dk).mono ?_
      rw [HOF.out.2.2.1, HOF.out.2.2.2]
      rintro e w5 ⟨rfl, hnx⟩
      (obtain ⟨ro5, hdw5⟩ := HW.out.next hnx; have HW5 := hid hdw5; clear hnx hdw5 HW; have HW := HW5; clear HW5)
      go_wp2_with fail
      refine (ops_any p ro5 (FC j k d) w5 HW.out.dk).mono ?_
      rw [show (FC j k d).ops = 1 + (j : Int) + 1 from rfl]
      rintro e w6 ⟨rfl, rfl⟩
      have hbo : ((1 + (j : Int) + 1) == (1 + (j : Int) + 1)) = true := by simp
      go_wp2_with fail
      refine (start_any p ro5 (FC j k d) w5 HW.out.dk).mono ?_
      rw [f_start]
      rintro e w7 ⟨rfl, hnx⟩
      (obtain ⟨ro7, hdw7⟩ := HW.out.next hnx; have HW7 := hid hdw7; clear hnx hdw7 HW; have HW := HW7; clear HW7)
      go_wp2_with fail
      refine (read_any p ro7 _ na w7 HW.out.dk).mono ?_
      rw [(f_read j k d).1]
      rintro e w8 ⟨v, rfl, hv, hk8⟩
      obtain ⟨rb, hrb⟩ : ∃ rb, (readB ({ FC j k d with off := false } : DS) na).length = rb := ⟨_, rfl⟩
      have hrl := (f_read j k d).2
      rw [hrb, HL.out] at hrl
      rw [hrb] at hv
      obtain ⟨VB, vc, rfl⟩ := own_shape hv
      have HRL := hid hrl
      have HW8 := hid (HW.out.all hk8)
      clear hv hk8 hrb hrl HW
      have HW := HW8
      clear HW8
      have hP0 : j * l ≤ 19 * 1000 := Nat.mul_le_mul hq19 (by omega)
      obtain ⟨P, hP⟩ : ∃ P : Nat, j * l = P := ⟨_, rfl⟩
      have hPi : (j : Int) * (l : Int) = (P : Int) := by rw [← hP]; simp
      have hrl := HRL.out
      rw [hP] at hP0 hrl
      have hj1 : (1 : Int) + (j : Int) - 1 = (j : Int) := by omega
      have hPw : IntKind.i64.wrap ((j : Int) * (l : Int)) = (P : Int) := by rw [hPi]; exact IntWalk.i64_in _ (by omega)
      have p0 : (0 : Int) ≤ (P : Int) := by omega
      have p1 : (P : Int) ≤ 19000 := by omega
      clear hP
      have HOKS : Hid ({ FC j k d with off := false } : DS).Ok := hid (f_ok (by unfold FC; simp only; omega) (by unfold FC; simp only; omega) (by unfold FC; simp only; omega) (by unfold FC; simp))
      have HS2 := hid (f_sync2 j k d).2
      by_cases hk0 : k < 0
      · obtain rfl : rb = 0 := by omega
        have hp : ¬ (P : Int) < 0 := by omega
        clear hrl
        go_wp2_with fail
        refine (sync_any p ro7 _ HOKS.out w8 HW.out.dk).mono ?_
        rw [(f_sync2 j k d).1]
        rintro e w9 ⟨rfl, hnx⟩
        (obtain ⟨ro9, hdw9⟩ := HW.out.next hnx; have HW9 := hid hdw9; clear hnx hdw9 HW; have HW := HW9; clear HW9)
        go_wp2_with fail
        refine (list_any p ro9 _ HS2.out.1 (by
          intro x hx
          have h1 : x.1 ∈ (syncD ({ FC j k d with off := false } : DS)).F.map (·.1) := List.mem_map.2 ⟨x, hx, rfl⟩
          rw [HS2.out.2] at h1
          simp at h1
          rw [h1]; decide) (by
          have h1 := congrArg List.length HS2.out.2
          rw [List.length_map] at h1
          rw [h1]; decide) w9 HW.out.dk).mono ?_
        rintro e w10 ⟨v, ks, rfl, hperm, _, hrow, hk10⟩
        rw [HS2.out.2] at hperm
        obtain rfl : ks = [na] := List.perm_singleton.1 hperm
        obtain ⟨VK, vkc, rfl⟩ := own_shape hrow
        have hsl : Foot All (Sl VK 1 vkc 1 ([na].map Value.string)) (w10.alloc (.cells #[.string na] 9)) := fun u hu => by
          have h2 := (own_sl (own_kept hrow ((Kp.al _ _).trans hu) (fun _ _ => trivial)) (Nat.le_refl 1)).1
          exact h2
        have hsl2 : Foot All (Sl (some ⟨w10.heap.size, 0, none⟩) 1 1 1 ([na].map Value.string)) (w10.alloc (.cells #[.string na] 9)) := fun u hu => by
          refine ⟨rfl, Nat.le_refl _, fun _ => ⟨_, 0, rfl, fun j x hj => ?_⟩⟩
          rw [Nat.zero_add, blk_cell (hu.heap (blk_new w10 _) trivial)]
          simpa using hj
        have HSL := hid hsl; have HSL2 := hid hsl2; have HK10 := hid (HW.out.kp.trans hk10)
        clear hperm hrow hk10 hsl hsl2
        go_wp2_with fail
        refine (texts_any VK (some ⟨w10.heap.size, 0, none⟩) 1 vkc 1 1 [na] [na] true _ (by exact HSL.out) (by exact HSL2.out) (by decide) (decide_eq_true rfl).symm).mono ?_
        rintro e w11 ⟨rfl, hk11⟩
        have HK11 := hid hk11
        clear hk11
        go_wp2_with fail
        refine (lives_true _).mono ?_
        rintro e w12 ⟨rfl, hk⟩
        have HK := hid hk
        clear hk
        go_wp2_with fail
        go_ret
        exact ⟨rfl, ((HK10.out.alloc _).trans HK11.out).trans HK.out⟩
      · by_cases hkp : (P : Int) < k
        · obtain rfl : rb = P := by omega
          clear hrl
          go_wp2_with fail
          refine (sync_any p ro7 _ HOKS.out w8 HW.out.dk).mono ?_
          rw [(f_sync2 j k d).1]
          rintro e w9 ⟨rfl, hnx⟩
          (obtain ⟨ro9, hdw9⟩ := HW.out.next hnx; have HW9 := hid hdw9; clear hnx hdw9 HW; have HW := HW9; clear HW9)
          go_wp2_with fail
          refine (list_any p ro9 _ HS2.out.1 (by
            intro x hx
            have h1 : x.1 ∈ (syncD ({ FC j k d with off := false } : DS)).F.map (·.1) := List.mem_map.2 ⟨x, hx, rfl⟩
            rw [HS2.out.2] at h1
            simp at h1
            rw [h1]; decide) (by
            have h1 := congrArg List.length HS2.out.2
            rw [List.length_map] at h1
            rw [h1]; decide) w9 HW.out.dk).mono ?_
          rintro e w10 ⟨v, ks, rfl, hperm, _, hrow, hk10⟩
          rw [HS2.out.2] at hperm
          obtain rfl : ks = [na] := List.perm_singleton.1 hperm
          obtain ⟨VK, vkc, rfl⟩ := own_shape hrow
          have hsl : Foot All (Sl VK 1 vkc 1 ([na].map Value.string)) (w10.alloc (.cells #[.string na] 9)) := fun u hu => by
            have h2 := (own_sl (own_kept hrow ((Kp.al _ _).trans hu) (fun _ _ => trivial)) (Nat.le_refl 1)).1
            exact h2
          have hsl2 : Foot All (Sl (some ⟨w10.heap.size, 0, none⟩) 1 1 1 ([na].map Value.string)) (w10.alloc (.cells #[.string na] 9)) := fun u hu => by
            refine ⟨rfl, Nat.le_refl _, fun _ => ⟨_, 0, rfl, fun j x hj => ?_⟩⟩
            rw [Nat.zero_add, blk_cell (hu.heap (blk_new w10 _) trivial)]
            simpa using hj
          have HSL := hid hsl; have HSL2 := hid hsl2; have HK10 := hid (HW.out.kp.trans hk10)
          clear hperm hrow hk10 hsl hsl2
          go_wp2_with fail
          refine (texts_any VK (some ⟨w10.heap.size, 0, none⟩) 1 vkc 1 1 [na] [na] true _ (by exact HSL.out) (by exact HSL2.out) (by decide) (decide_eq_true rfl).symm).mono ?_
          rintro e w11 ⟨rfl, hk11⟩
          have HK11 := hid hk11
          clear hk11
          go_wp2_with fail
          refine (lives_true _).mono ?_
          rintro e w12 ⟨rfl, hk⟩
          have HK := hid hk
          clear hk
          go_wp2_with fail
          go_ret
          exact ⟨rfl, ((HK10.out.alloc _).trans HK11.out).trans HK.out⟩
        · obtain rfl : k = (rb : Int) := by omega
          clear hrl
          go_wp2_with fail
          refine (sync_any p ro7 _ HOKS.out w8 HW.out.dk).mono ?_
          rw [(f_sync2 j (rb : Int) d).1]
          rintro e w9 ⟨rfl, hnx⟩
          (obtain ⟨ro9, hdw9⟩ := HW.out.next hnx; have HW9 := hid hdw9; clear hnx hdw9 HW; have HW := HW9; clear HW9)
          go_wp2_with fail
          refine (list_any p ro9 _ HS2.out.1 (by
            intro x hx
            have h1 : x.1 ∈ (syncD ({ FC j (rb : Int) d with off := false } : DS)).F.map (·.1) := List.mem_map.2 ⟨x, hx, rfl⟩
            rw [HS2.out.2] at h1
            simp at h1
            rw [h1]; decide) (by
            have h1 := congrArg List.length HS2.out.2
            rw [List.length_map] at h1
            rw [h1]; decide) w9 HW.out.dk).mono ?_
          rintro e w10 ⟨v, ks, rfl, hperm, _, hrow, hk10⟩
          rw [HS2.out.2] at hperm
          obtain rfl : ks = [na] := List.perm_singleton.1 hperm
          obtain ⟨VK, vkc, rfl⟩ := own_shape hrow
          have hsl : Foot All (Sl VK 1 vkc 1 ([na].map Value.string)) (w10.alloc (.cells #[.string na] 9)) := fun u hu => by
            have h2 := (own_sl (own_kept hrow ((Kp.al _ _).trans hu) (fun _ _ => trivial)) (Nat.le_refl 1)).1
            exact h2
          have hsl2 : Foot All (Sl (some ⟨w10.heap.size, 0, none⟩) 1 1 1 ([na].map Value.string)) (w10.alloc (.cells #[.string na] 9)) := fun u hu => by
            refine ⟨rfl, Nat.le_refl _, fun _ => ⟨_, 0, rfl, fun j x hj => ?_⟩⟩
            rw [Nat.zero_add, blk_cell (hu.heap (blk_new w10 _) trivial)]
            simpa using hj
          have HSL := hid hsl; have HSL2 := hid hsl2; have HK10 := hid (HW.out.kp.trans hk10)
          clear hperm hrow hk10 hsl hsl2
          go_wp2_with fail
          refine (texts_any VK (some ⟨w10.heap.size, 0, none⟩) 1 vkc 1 1 [na] [na] true _ (by exact HSL.out) (by exact HSL2.out) (by decide) (decide_eq_true rfl).symm).mono ?_
          rintro e w11 ⟨rfl, hk11⟩
          have HK11 := hid hk11
          clear hk11
          go_wp2_with fail
          refine (lives_true _).mono ?_
          rintro e w12 ⟨rfl, hk⟩
          have HK := hid hk
          clear hk
          go_wp2_with fail
          go_ret
          exact ⟨rfl, ((HK10.out.alloc _).trans HK11.out).trans HK.out⟩
end Go.Proofs.Ytdlbccjimdghkaa
