/- DiskActs: the walk. No condition but that the acts lie as they were given. -/
import Derived.Test.YtdlbccjimdghkaaJD
namespace Go.Proofs.Ytdlbccjimdghkaa
open Go.RowKit
set_option linter.unusedVariables false
set_option linter.unusedSimpArgs false
set_option maxRecDepth 100000 in
theorem dnew_no (n : Int) (h : n < 0 ∨ 16777216 < n) (w : World) : Calls Try.prog 13 #[.int .i64 n] w fun e w' => e = .returned (.pointer none) ∧ w = w' := by
  have hs : (decide (n < 0) = true) ∨ (decide (n < 0) = false ∧ decide (16777216 < n) = true) := by
    rcases h with h | h
    · exact .inl (decide_eq_true h)
    · exact .inr ⟨decide_eq_false (by omega), decide_eq_true h⟩
  rcases hs with d0 | ⟨d0, d1⟩
  · go_enter Try.func13, Try.ntmps13
    go_wp2_with fail
    go_ret
    exact ⟨rfl, rfl⟩
  · go_enter Try.func13, Try.ntmps13
    go_wp2_with fail
    go_ret
    exact ⟨rfl, rfl⟩
def cst (xs : List A8) : Nat := (xs.map fun x => 2 + x.data.length).sum
theorem cst_take {xs : List A8} {k : Nat} {x : A8} (h : xs[k]? = some x) : cst (xs.take (k + 1)) = cst (xs.take k) + 2 + x.data.length := by
  rw [List.take_add_one, h]
  simp [cst]
  omega
theorem cst_le (xs : List A8) : cst xs ≤ 102 * tot xs := by
  induction xs with
  | nil => simp [cst]
  | cons x xs ih =>
    have e1 : cst (x :: xs) = 2 + x.data.length + cst xs := by simp [cst]
    have e2 : tot (x :: xs) = wt x + tot xs := by simp [tot]
    have e3 : wt x = 1 + x.data.length / 50 + (x.a.size + x.b.size) / 50 := rfl
    omega
theorem cst_take_le (xs : List A8) (k : Nat) : cst (xs.take k) ≤ cst xs := by
  have h := congrArg cst (List.take_append_drop k xs)
  simp only [cst, List.map_append, List.sum_append] at h ⊢
  omega
theorem Bo.start0 (n : Int) : Bo 0 ⟨n, false, 0, 0, 0, [], []⟩ ⟨n, false, 0, 0, 0, [], []⟩ := ⟨⟨List.Perm.refl _, rfl, rfl, rfl, rfl, rfl, rfl⟩, ⟨Nat.le_refl _, Nat.le_refl _, Nat.le_refl _, List.nodup_nil, by simp, Int.le_refl _, Int.le_refl _, (by decide : (0 : Int) ≤ 9223372036854775807), (by decide : (0 : Int) ≤ 9223372036854775807)⟩, ⟨List.Pairwise.nil, by simp⟩⟩
set_option maxRecDepth 100000 in
set_option maxHeartbeats 4000000 in
theorem dacts_true (bl : Int) (A : Option Addr) (c : Nat) (xs : List A8) (n : Nat) (hn : xs.length = n) (w : World) (hs : Foot All (AS A xs) w) (hl : n ≤ 140737488351232) (hf : ∀ x ∈ xs, fine8 x) (hi : ∀ x ∈ xs, x.n ≤ 9223372036854775807 ∧ x.k ≤ 9223372036854775807) :
    Calls Try.prog 7 #[.int .i64 bl, .slice A n c] w (Boo true w) := by
  have HS := hid hs; have HN := hid hn; have HF := hid hf; have HI := hid hi
  obtain ⟨fb, hfb⟩ : ∃ fb, decide (tot xs ≤ 300) = fb := ⟨_, rfl⟩
  have HFB := hid hfb
  clear hs hn hf hfb hi
  by_cases hbl : bl < 0 ∨ 16777216 < bl
  · have HBL := hid hbl
    clear hbl
    go_enter Try.func7, Try.ntmps7
    go_wp2_with fail
    refine (dnew_no bl HBL.out w).mono ?_
    rintro e w1 ⟨rfl, rfl⟩
    go_wp2_with fail
    refine (qnew_no bl HBL.out w).mono ?_
    rintro e w1 ⟨rfl, rfl⟩
    go_wp2_with fail
    refine (lives_true _).mono ?_
    rintro e w2 ⟨rfl, hk⟩
    have HK := hid hk
    clear hk
    go_wp2_with fail
    go_ret
    exact ⟨rfl, HK.out⟩
  · have b0 : 0 ≤ bl := by omega
    have b1 : bl ≤ 16777216 := by omega
    clear hbl
    go_enter Try.func7, Try.ntmps7
    go_wp2_with fail
    refine (dnew_any bl b0 b1 w).mono ?_
    rintro e w1 ⟨⟨p, ro0, rfl, hd0, hro0⟩, hk0⟩
    have HD0 := hid hd0; have HRO := hid hro0; have HK0 := hid hk0
    clear hd0 hro0 hk0
    go_wp2_with fail
    refine (qnew_any bl b0 b1 w1).mono ?_
    obtain ⟨q, hq⟩ : ∃ q, w1.heap.size = q := ⟨_, rfl⟩
    rw [hq]
    rintro e w2 ⟨rfl, hr2, hk2⟩
    have hT : Two w p q ro0 (fun b => b = q) ⟨bl, false, 0, 0, 0, [], []⟩ ⟨bl, false, 0, 0, 0, [], []⟩ w2 := by
      refine ⟨HD0.out.all hk2, hr2, fun b hb => ?_, fun b hb => ⟨HRO.out b hb, fun e => ?_⟩, HK0.out.trans hk2⟩
      · by_cases hr : ro0 b = .none
        · exact hr
        · have := HD0.out.lt hr; omega
      · have := HK0.out.size; omega
    have HT := hid hT
    clear hr2 hk2 hq hT
    go_wp2_with fail
    refine (few_any A c xs n HN.out w2 (HS.out.step HT.out.k) hl HF.out).mono ?_
    rw [HFB.out]
    rintro e w3 ⟨rfl, hk3⟩
    have HT3 := hid (HT.out.all hk3)
    clear hk3 HT
    cases fb with
    | false =>
      go_wp2_with fail
      refine (lives_true _).mono ?_
      rintro e w4 ⟨rfl, hk⟩
      have HK := hid hk
      clear hk
      go_wp2_with fail
      go_ret
      exact ⟨rfl, HT3.out.k.trans HK.out⟩
    | true =>
      have hfew : Hid (tot xs ≤ 300) := hid (of_decide_eq_true HFB.out)
      go_wp2_with fail
      go_loopw [28] (fun jj wr => ∃ (j : Nat) (ro : Nat → Role) (Z : Nat → Prop) (D R : DS), j ≤ n ∧ jj = .int .i64 j ∧ Hid (Two w p q ro Z D R wr) ∧ Hid (Bo (cst (xs.take j)) D R)) (fun jj _ => n - (intOf jj).toNat)
      case atStart => exact ⟨0, ro0, _, _, _, Nat.zero_le _, rfl, HT3, hid (Bo.start0 bl)⟩
      case round =>
        obtain ⟨j, ro, Z, D, R, hj, rfl, HW, HB⟩ := hrel
        by_cases hlt2 : j < n
        · have hb1 : decide ((j : Int) < (n : Int)) = true := decide_eq_true (by omega)
          have j0 : (0 : Int) ≤ (j : Int) := by omega
          have j1 : (j : Int) < (n : Int) := by omega
          obtain ⟨x, hx⟩ : ∃ x, xs[j]? = some x := ⟨_, List.getElem?_eq_getElem (by rw [HN.out]; exact hlt2)⟩
          have htk := cst_take hx
          have htl := cst_take_le xs (j + 1)
          have hcl := cst_le xs
          have hfx := HF.out x (List.mem_of_getElem? hx)
          have hix := HI.out x (List.mem_of_getElem? hx)
          have hax : AOk w (cst (xs.take j)) x := by
            refine ⟨?_, ?_, fun u hu => ?_, hix.1, hix.2, ?_⟩
            · have := hfx.2.1; omega
            · have := hfx.2.2; omega
            · obtain ⟨b', o', e', hA'⟩ := HS.out u hu (by rw [HN.out]; omega)
              exact (hA' j x hx).2
            · have := hfew.out; omega
          obtain ⟨b, o, rfl, hA⟩ := HS.out wr HW.out.k (by rw [HN.out]; omega)
          have hc := (hA j x hx).1
          have d0 := hc 0 _ rfl; have d1 := hc 1 _ rfl; have d2 := hc 2 _ rfl; have d3 := hc 3 _ rfl; have d4 := hc 4 _ rfl; have d5 := hc 5 _ rfl
          rw [Nat.add_zero] at d0
          have HAX := hid hax
          have HTK := hid htk
          have H4 := hid (HW.out.all (Kp.al wr (.cells #[.int .i64 x.kind, .string x.a, .string x.b, .slice x.A x.data.length x.c, .int .i64 x.n, .int .i64 x.k] 34)))
          clear hc hA hx htk htl hcl hfx hix hax HW
          go_wp2_with fail
          refine (act_any w _ p q _ ro Z D R H4.out HB.out x HAX.out).mono ?_
          rintro e w4 ⟨rfl, ro5, Z5, D5, R5, ht5, hb5⟩
          rw [← HTK.out] at hb5
          have H5 := hid ht5; have HB5 := hid hb5
          have hc5 : cst (xs.take (j + 1)) ≤ 100000 := by
            have := cst_take_le xs (j + 1); have := cst_le xs; have := hfew.out; omega
          clear ht5 hb5 d0 d1 d2 d3 d4 d5
          go_wp2_with fail
          refine (alike_any w _ p q _ ro5 Z5 D5 R5 H5.out HB5.out hc5).mono ?_
          rintro e w6 ⟨rfl, ht6⟩
          have H6 := hid ht6
          clear ht6
          go_wp2_with fail
          exact ⟨⟨j + 1, ro5, Z5, D5, R5, by omega, by go_num, H6.out, HB5.out⟩, by simp [intOf]; omega⟩
        · have hb1 : decide ((j : Int) < (n : Int)) = false := decide_eq_false (by omega)
          go_wp2_with fail
          refine (lives_true _).mono ?_
          rintro e w4 ⟨rfl, hk⟩
          have HK := hid hk
          clear hk
          go_wp2_with fail
          go_ret
          exact ⟨rfl, HW.out.k.trans HK.out⟩
end Go.Proofs.Ytdlbccjimdghkaa
