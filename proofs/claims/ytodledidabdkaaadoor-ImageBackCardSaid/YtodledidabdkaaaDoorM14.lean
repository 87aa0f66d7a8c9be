/- ImageSame walked. No condition but that the rows of pairs lie, with texts no longer than memory goes, and where the library's variable lies. ImageRanges walked. No condition but that the row of pairs lies, with texts no longer than memory goes, and where the library's variable lies. ImageBack walked. No condition but that the row of pairs lies, with texts no longer than memory goes, and where the library's variable lies. -/
import Derived.Test.YtodledidabdkaaaDoorM13
import Derived.Test.YtodledidabdkaaaDoorXJ
import Derived.Test.YtodledidabdkaaaDoorM12
set_option linter.unusedVariables false
set_option linter.unusedSimpArgs false
namespace Go.Proofs.YtodledidabdkaaaDoor
open Go.RowKit Go.Shelf V
set_option linter.unusedVariables false
set_option linter.unusedSimpArgs false
set_option maxRecDepth 100000 in
set_option maxHeartbeats 4000000 in
theorem imageSame_any (a0 a1 b0 b1 : Nat) (ha0 : a0 < 18446744073709551616) (ha1 : a1 < 18446744073709551616) (hb0 : b0 < 18446744073709551616) (hb1 : b1 < 18446744073709551616) (A A' : Option Addr) (n c m d : Nat) (L M : List Slot) (hn : L.length = n) (hm : M.length = m) (hL : Szs L) (hM : Szs M) (w : World) (hgs : Gs w) (h : Foot All (Sl A n c 2 (scs L)) w) (h' : Foot All (Sl A' m d 2 (scs M)) w) :
    Calls Tryd.prog 4 #[.agg #[.int .u64 a0, .int .u64 a1], .agg #[.int .u64 b0, .int .u64 b1], .agg #[.slice A n c, .slice A' m d]] w fun e w' => e = .returned (.bool true) ∧ Kp All w w' := by
  obtain ⟨W3, hW3⟩ : ∃ W3, ((w.alloc (.cells #[.int .u64 a0, .int .u64 a1] 28)).alloc (.cells #[.int .u64 b0, .int .u64 b1] 28)).alloc (.cells #[.slice A n c, .slice A' m d] 39) = W3 := ⟨_, rfl⟩
  have k3 : Kp All w W3 := hW3 ▸ ((Kp.al _ _).alloc _).alloc _
  have ba := blk_alloc (blk_alloc (blk_new w (.cells #[.int .u64 a0, .int .u64 a1] 28)) (.cells #[.int .u64 b0, .int .u64 b1] 28)) (.cells #[.slice A n c, .slice A' m d] 39)
  have bb := blk_alloc (blk_new (w.alloc (.cells #[.int .u64 a0, .int .u64 a1] 28)) (.cells #[.int .u64 b0, .int .u64 b1] 28)) (.cells #[.slice A n c, .slice A' m d] 39)
  have bt := blk_new ((w.alloc (.cells #[.int .u64 a0, .int .u64 a1] 28)).alloc (.cells #[.int .u64 b0, .int .u64 b1] 28)) (.cells #[.slice A n c, .slice A' m d] 39)
  simp only [World.size_alloc] at bb bt
  rw [hW3] at ba bb bt
  have ca := blk_cell ba; have cb := blk_cell bb
  have BA := hid ba; have BB := hid bb; have BT := hid bt
  have H := hid (h.step k3); have H' := hid (h'.step k3)
  have HN := hid hn; have HM := hid hm; have HL := hid hL; have HMM := hid hM
  have HG := hid (hgs.kept k3 trivial); have K3 := hid k3
  have hn9 : n ≤ 9000000000000000000 := hn ▸ hL.1
  have hm9 : m ≤ 9000000000000000000 := hm ▸ hM.1
  clear ba bb bt k3 h h' hn hm hL hM hgs
  go_enter Tryd.func4, Tryd.ntmps4
  go_wp2_with fail
  go_region_held3 (fun w' => (∀ i, w'.cell? ⟨w.heap.size, i, none⟩ = (#[.int .u64 a0, .int .u64 a1] : Array Value)[i]?) ∧ (∀ i, w'.cell? ⟨w.heap.size + 1, i, none⟩ = (#[.int .u64 b0, .int .u64 b1] : Array Value)[i]?)) (first | exact ⟨ca, cb⟩ | exact ⟨blk_cell (HKB.out.heap BA.out trivial), blk_cell (HKB.out.heap BB.out trivial)⟩ | exact ⟨blk_cell (HKA.out.heap BA.out trivial), blk_cell (HKA.out.heap BB.out trivial)⟩) (first | (go_at_call 7; refine (n2_new (a0 := a0) (a1 := a1) 20 hb0 hb1 (by omega) HG.out HNM.out).mono ?_; rintro e w5 ⟨bq, kb, hkb, rfl, hn2, hk5⟩; have HN2 := hid hn2; have HKB := hid (HKA.out.trans hk5); have HQB := hid hkb; clear hn2 hk5 hkb) | (go_at_call 7; refine (nm_newg a0 a1 0 ha0 ha1 (by omega) W3 _ (Kp.refl All W3).drew HG.out).mono ?_; rintro e w4 ⟨bp, ka, hka, rfl, hnm, hk4⟩; have HNM := hid hnm; have HKA := hid ((Kp.refl All W3).drew.trans hk4); have HQA := hid hka; clear hnm hk4 hka))
  have ct := blk_cell (HKB.out.heap BT.out trivial)
  have HF1 := hid (fun W (k : Kp All W3 W) => few07_any A n c L HN.out hn9 HL.out.2 W (H.out.step k))
  have HF2 := hid (fun W (k : Kp All W3 W) => few07_any A' m d M HM.out hm9 HMM.out.2 W (H'.out.step k))
  have HLV := hid (fun W (k : Kp All W3 W) => lives07_any W (HG.out.kept k trivial))
  clear ca cb
  cases hfl : fewGo 0 L with
  | false =>
    rw [hfl] at HF1
    go_wp2_with fail
    refine (HF1.out _ HKB.out).mono ?_
    rintro e w6 ⟨rfl, hk6⟩
    have HK6 := hid hk6
    clear hk6
    go_wp2_with fail
    refine (HLV.out _ (HKB.out.trans HK6.out)).mono ?_
    rintro e w7 ⟨rfl, hk7⟩
    have HK7 := hid hk7
    clear hk7
    go_wp2_with fail
    go_ret
    exact ⟨rfl, K3.out.trans (HKB.out.trans (HK6.out.trans HK7.out))⟩
  | true =>
    rw [hfl] at HF1
    have HFL := hid hfl
    clear hfl
    cases hfm : fewGo 0 M with
    | false =>
      rw [hfm] at HF2
      go_wp2_with fail
      refine (HF1.out _ HKB.out).mono ?_
      rintro e w6 ⟨rfl, hk6⟩
      have ct := blk_cell ((HKB.out.trans hk6).heap BT.out trivial)
      have HK6 := hid hk6
      clear hk6
      go_wp2_with fail
      refine (HF2.out _ (HKB.out.trans HK6.out)).mono ?_
      rintro e w7 ⟨rfl, hk7⟩
      have HK7 := hid hk7
      clear hk7
      go_wp2_with fail
      refine (HLV.out _ (HKB.out.trans (HK6.out.trans HK7.out))).mono ?_
      rintro e w8 ⟨rfl, hk8⟩
      have HK8 := hid hk8
      clear hk8
      go_wp2_with fail
      go_ret
      exact ⟨rfl, K3.out.trans (HKB.out.trans (HK6.out.trans (HK7.out.trans HK8.out)))⟩
    | true =>
      rw [hfm] at HF2
      have HFM := hid hfm
      clear hfm
      go_wp2_with fail
      refine (HF1.out _ HKB.out).mono ?_
      rintro e w6 ⟨rfl, hk6⟩
      have ct6 := blk_cell ((HKB.out.trans hk6).heap BT.out trivial)
      have HK6 := hid hk6
      clear hk6
      go_wp2_with fail
      refine (HF2.out _ (HKB.out.trans HK6.out)).mono ?_
      rintro e w7 ⟨rfl, hk7⟩
      have ct7 := blk_cell ((HKB.out.trans (HK6.out.trans hk7)).heap BT.out trivial)
      have HK7 := hid (HK6.out.trans hk7)
      clear hk7 ct ct6
      go_wp2_with fail
      go_loopw [48] (fun i wr => ∃ k : Nat, k ≤ n ∧ i = .int .i64 k ∧ Hid (N2 a0 a1 b0 b1 W3 bp bq (putsP (sipP a0 a1) (madeP (2 ^ ka)) (L.take k)) (madeP (2 ^ kb)) wr)) (fun i _ => n - (ivl i).toNat)
      case atStart => exact ⟨0, Nat.zero_le _, rfl, hid (HN2.out.kept HK7.out)⟩
      case round =>
        obtain ⟨k, hk, rfl, hT⟩ := hrel
        by_cases hlt : k < n
        · have hb0 : decide ((k : Int) < (n : Int)) = true := decide_eq_true (by omega)
          obtain ⟨x, hx⟩ : ∃ x, L[k]? = some x := ⟨_, List.getElem?_eq_getElem (by rw [HN.out]; exact hlt)⟩
          obtain ⟨x1, x2⟩ := x
          obtain ⟨b, o, rfl, hr⟩ := (H.out _ hT.out.old).2.2 (by omega)
          obtain ⟨g1, g2⟩ := scs_get hx
          have p1 := hr _ _ g1
          have p2 := hr _ _ g2
          rw [← Nat.add_assoc] at p2
          dsimp only at p1 p2
          have hb1 := World.block_lt_of_cell? _ _ p1
          have i0 : (0 : Int) ≤ (k : Int) := by omega
          have i1 : (k : Int) < (n : Int) := by omega
          have hkz := (HL.out.2 (x1, x2) (List.mem_of_getElem? hx)).1
          dsimp only at hkz
          have HX := hid hx
          clear hx hr g1 g2
          go_wp2_with fail
          refine (n2_put x1 x2 (by omega) HG.out (hT.out.kept (Kp.al _ _))).mono ?_
          rintro e w5 ⟨rfl, hm5⟩
          rw [← puts_take HX.out] at hm5
          have HM5 := hid hm5
          clear hm5
          go_wp2_with fail
          exact ⟨⟨k + 1, by omega, by go_num, HM5⟩, by simp [ivl]; omega⟩
        · have hb0 : decide ((k : Int) < (n : Int)) = false := decide_eq_false (by omega)
          obtain rfl : k = n := by omega
          have hT2 := hT.out
          rw [List.take_of_length_le (by rw [HN.out]; exact Nat.le_refl _)] at hT2
          have HT1 := hid hT2
          clear hT2 hT
          have ct8 := blk_cell (HT1.out.old.heap BT.out trivial)
          clear ct7
          go_wp2_with fail
          go_loopw [62] (fun i wr => ∃ k : Nat, k ≤ m ∧ i = .int .i64 k ∧ Hid (N2 a0 a1 b0 b1 W3 bp bq (putsP (sipP a0 a1) (madeP (2 ^ ka)) L) (putsP (sipP b0 b1) (madeP (2 ^ kb)) (M.take k)) wr)) (fun i _ => m - (ivl i).toNat)
          case atStart => exact ⟨0, Nat.zero_le _, rfl, HT1⟩
          case round =>
            obtain ⟨k, hk, rfl, hT⟩ := hrel
            by_cases hlt : k < m
            · have hb0 : decide ((k : Int) < (m : Int)) = true := decide_eq_true (by omega)
              obtain ⟨x, hx⟩ : ∃ x, M[k]? = some x := ⟨_, List.getElem?_eq_getElem (by rw [HM.out]; exact hlt)⟩
              obtain ⟨x1, x2⟩ := x
              obtain ⟨b, o, rfl, hr⟩ := (H'.out _ hT.out.old).2.2 (by omega)
              obtain ⟨g1, g2⟩ := scs_get hx
              have p1 := hr _ _ g1
              have p2 := hr _ _ g2
              rw [← Nat.add_assoc] at p2
              dsimp only at p1 p2
              have hb1 := World.block_lt_of_cell? _ _ p1
              have i0 : (0 : Int) ≤ (k : Int) := by omega
              have i1 : (k : Int) < (m : Int) := by omega
              have hkz := (HMM.out.2 (x1, x2) (List.mem_of_getElem? hx)).1
              dsimp only at hkz
              have HX := hid hx
              clear hx hr g1 g2
              go_wp2_with fail
              refine (n2_put2 x1 x2 (by omega) HG.out (hT.out.kept (Kp.al _ _))).mono ?_
              rintro e w5 ⟨rfl, hm5⟩
              rw [← puts_take HX.out] at hm5
              have HM5 := hid hm5
              clear hm5
              go_wp2_with fail
              exact ⟨⟨k + 1, by omega, by go_num, HM5⟩, by simp [ivl]; omega⟩
            · have hb0 : decide ((k : Int) < (m : Int)) = false := decide_eq_false (by omega)
              obtain rfl : k = m := by omega
              have hT2 := hT.out
              rw [List.take_of_length_le (by rw [HM.out]; exact Nat.le_refl _)] at hT2
              have HT2 := hid hT2
              clear hT2 hT
              have HX := hid (few_pairs (H := sipP a0 a1) HQA.out HFL.out)
              have HY := hid (few_pairs (H := sipP b0 b1) HQB.out HFM.out)
              have hed := enc_dec HX.out HY.out
              obtain ⟨P, hP⟩ : ∃ P, putsP (sipP a0 a1) (madeP (2 ^ ka)) L = P := ⟨_, rfl⟩
              obtain ⟨Q, hQ⟩ : ∃ Q, putsP (sipP b0 b1) (madeP (2 ^ kb)) M = Q := ⟨_, rfl⟩
              rw [hP, hQ] at HT2 hed
              rw [hP] at HX
              rw [hQ] at HY
              obtain ⟨cc, hcc⟩ : ∃ cc, decide (pairsP P = pairsP Q) = cc := ⟨_, rfl⟩
              have hqp : decide (pairsP Q = pairsP P) = cc := by rw [← hcc]; exact decide_eq_decide.2 ⟨Eq.symm, Eq.symm⟩
              rw [hcc] at hed
              have HED := hid hed; have HCC := hid hcc; have HQP := hid hqp
              clear hed hcc hqp hP hQ ct8
              go_wp2_with fail
              have hcc : (cc == cc) = true := by simp
              obtain ⟨Op, Oq, hlp, hlq, _⟩ := HT2.out
              have HLP := hid hlp; have HLQ := hid hlq
              have HOLD := hid (K3.out.trans HT2.out.old)
              have HO3 := hid HT2.out.old
              clear hlp hlq
              refine (n2_same HT2.out).mono ?_
              rintro e w9 ⟨rfl, hk9⟩
              rw [HCC.out]
              have HK9 := hid hk9
              clear hk9
              go_wp2_with fail
              refine (n2_same (HT2.out.kept HK9.out).swap).mono ?_
              rintro e w10 ⟨rfl, hk10⟩
              rw [HQP.out]
              have HK10 := hid (HK9.out.trans hk10)
              clear hk10
              go_wp2_with fail
              refine (lm_pairs (HLP.out.all HK10.out)).mono ?_
              rintro e w11 ⟨A1, c1, rfl, hf1, hk11⟩
              have HK11 := hid (HK10.out.trans hk11)
              have HFA := hid hf1
              clear hf1 hk11
              go_wp2_with fail
              refine (lm_pairs (HLQ.out.all HK11.out)).mono ?_
              rintro e w12 ⟨A2, c2, rfl, hf2, hk12⟩
              have HFA2 := hid (HFA.out.step hk12)
              have HFB := hid hf2
              have HK12 := hid (HK11.out.trans hk12)
              clear hf2 hk12
              go_wp2_with fail
              refine (rsame07_any A1 A2 _ _ c1 c2 (pairsP P) (pairsP Q) rfl rfl (by have := HX.out.1; omega) (by have := HY.out.1; omega) w12 HFA2.out HFB.out).mono ?_
              rintro e w13 ⟨rfl, hk13⟩
              rw [HCC.out]
              have HK13 := hid (HK12.out.trans hk13)
              clear hk13
              go_wp2_with fail
              refine (lm_export (fun x hx => by have := HX.out.2 x hx; omega) (HLP.out.all HK13.out)).mono ?_
              rintro e w14 ⟨A3, n3, c3, rfl, hn3, hf3, hk14⟩
              have HN3 := hid hn3
              have HFC := hid hf3
              have HK14 := hid (HK13.out.trans hk14)
              clear hf3 hk14 hn3
              go_wp2_with fail
              refine (lm_export (fun x hx => by have := HY.out.2 x hx; omega) (HLQ.out.all HK14.out)).mono ?_
              rintro e w15 ⟨A4, n4, c4, rfl, hn4, hf4, hk15⟩
              have HN4 := hid hn4
              have HFC2 := hid (HFC.out.step hk15)
              have HFD := hid hf4
              have HK15 := hid (HK14.out.trans hk15)
              clear hf4 hk15 hn4
              go_wp2_with fail
              refine (rsame_any A3 A4 n3 c3 n4 c4 (encImg (pairsP P)) (encImg (pairsP Q)) HN3.out HN4.out w15 HFC2.out.now HFD.out.now).mono ?_
              rintro e w16 ⟨rfl, hw⟩
              subst hw
              rw [HED.out]
              go_wp2_with fail
              refine (n2_self (HT2.out.kept HK15.out)).mono ?_
              rintro e w17 ⟨rfl, hk17⟩
              have HK17 := hid (HK15.out.trans hk17)
              clear hk17
              go_wp2_with fail
              refine (HLV.out _ (HO3.out.trans HK17.out)).mono ?_
              rintro e w18 ⟨rfl, hk18⟩
              have HK18 := hid hk18
              clear hk18
              go_wp2_with fail
              go_ret
              exact ⟨rfl, HOLD.out.trans (HK17.out.trans HK18.out)⟩
end Go.Proofs.YtodledidabdkaaaDoor

namespace Go.Proofs.YtodledidabdkaaaDoor
open Go.RowKit Go.Shelf Go.Sort V
set_option linter.unusedVariables false
set_option linter.unusedSimpArgs false
theorem lm_get {k0 k1 bm : Nat} {M : Mp} {O : Nat → Prop} {W : World} (h : Lm k0 k1 bm M O W) (key v : Tx) (hkey : key.size ≤ 9000000000000000000) (hv : Has M key v) : Calls Tryd.prog 17 #[.pointer (some ⟨bm, 0, none⟩), .string key] W fun e w' => e = .returned (.tuple #[.string v, .bool true]) ∧ Kp All W w' := by
  obtain ⟨bw, cw, bs, cs, hm, hO⟩ := h.ms
  refine (mget_any k0 k1 bm bw cw bs cs M h.inv.pm h.h0 h.h1 key hkey W hm (fun i hf => ?_)).mono ?_
  · obtain ⟨v0, hFu⟩ := find_mem h.inv hf
    have := hFu.lt
    rw [h.inv.pm.len] at this
    exact this
  · rintro e w' ⟨rfl, k⟩
    exact ⟨by rw [(get_some h.inv).2 hv]; rfl, k⟩
theorem lm_len {k0 k1 bm : Nat} {M : Mp} {O : Nat → Prop} {W : World} (h : Lm k0 k1 bm M O W) : Calls Tryd.prog 18 #[.pointer (some ⟨bm, 0, none⟩)] W fun e w' => e = .returned (.int .i64 (pairsP M).length) ∧ w' = W := by
  obtain ⟨bw, cw, bs, cs, hm, hO⟩ := h.ms
  rw [pairs_len h.inv.slen]
  exact mlen_any h.inv.pm.g1.1 W hm
theorem lm_range {k0 k1 bm : Nat} {M : Mp} {O : Nat → Prop} {W : World} (h : Lm k0 k1 bm M O W) (lo hi : Tx) (n : Int) : Calls Tryd.prog 9 #[.pointer (some ⟨bm, 0, none⟩), .string lo, .string hi, .int .i64 n] W fun e w' => ∃ A c, e = .returned (.slice A (rangeP (pairsP M) lo hi n).length c) ∧ Foot All (Sl A (rangeP (pairsP M) lo hi n).length c 2 (scs (rangeP (pairsP M) lo hi n))) w' ∧ Kp All W w' := by
  refine (irange_any k0 k1 (some bm) M O lo hi n W h).mono ?_
  rintro e w' ⟨v, rfl, hr, k⟩
  obtain ⟨A, c, rfl⟩ := own_shape hr
  exact ⟨A, c, rfl, own_foot2 hr, k⟩
theorem scs_one (l : List Slot) : ∀ u ∈ scs l, u.oneCell' = true := by
  intro u hu
  obtain ⟨s, _, hs⟩ := List.mem_flatMap.1 hu
  exact two_one s u hs
set_option maxRecDepth 100000 in
set_option maxHeartbeats 4000000 in
theorem imageRanges_any (k0 k1 : Nat) (h0 : k0 < 18446744073709551616) (h1 : k1 < 18446744073709551616) (A : Option Addr) (n c : Nat) (L : List Slot) (f u : Tx) (lim : Int) (hn : L.length = n) (hL : Szs L) (w : World) (hgs : Gs w) (h : Foot All (Sl A n c 2 (scs L)) w) :
    Calls Tryd.prog 5 #[.agg #[.int .u64 k0, .int .u64 k1], .slice A n c, .agg #[.string f, .string u, .int .i64 lim]] w fun e w' => e = .returned (.bool true) ∧ Kp All w w' := by
  obtain ⟨W3, hW3⟩ : ∃ W3, (w.alloc (.cells #[.int .u64 k0, .int .u64 k1] 28)).alloc (.cells #[.string f, .string u, .int .i64 lim] 23) = W3 := ⟨_, rfl⟩
  have k3 : Kp All w W3 := hW3 ▸ (Kp.al _ _).alloc _
  have ba := blk_alloc (blk_new w (.cells #[.int .u64 k0, .int .u64 k1] 28)) (.cells #[.string f, .string u, .int .i64 lim] 23)
  have bt := blk_new (w.alloc (.cells #[.int .u64 k0, .int .u64 k1] 28)) (.cells #[.string f, .string u, .int .i64 lim] 23)
  simp only [World.size_alloc] at bt
  rw [hW3] at ba bt
  have ca := blk_cell ba
  have BT := hid bt
  have H := hid (h.step k3)
  have HN := hid hn; have HL := hid hL
  have HG := hid (hgs.kept k3 trivial); have K3 := hid k3
  have hn9 : n ≤ 9000000000000000000 := hn ▸ hL.1
  clear ba bt k3 h hn hL hgs
  go_enter Tryd.func5, Tryd.ntmps5
  go_wp2_with fail
  refine (nm_newg k0 k1 0 h0 h1 (by omega) W3 W3 (Kp.refl _ _) HG.out).mono ?_
  rintro e w4 ⟨bm, kk, hkk, rfl, hnm, hk4⟩
  have HNM := hid hnm; have HK4 := hid hk4; have HKK := hid hkk
  have HF1 := hid (fun W (k : Kp All W3 W) => few07_any A n c L HN.out hn9 HL.out.2 W (H.out.step k))
  have HLV := hid (fun W (k : Kp All W3 W) => lives07_any W (HG.out.kept k trivial))
  clear ca hnm hk4 hkk
  cases hfl : fewGo 0 L with
  | false =>
    rw [hfl] at HF1
    go_wp2_with fail
    refine (HF1.out _ HK4.out).mono ?_
    rintro e w6 ⟨rfl, hk6⟩
    have HK6 := hid hk6
    clear hk6
    go_wp2_with fail
    refine (HLV.out _ (HK4.out.trans HK6.out)).mono ?_
    rintro e w7 ⟨rfl, hk7⟩
    have HK7 := hid hk7
    clear hk7
    go_wp2_with fail
    go_ret
    exact ⟨rfl, K3.out.trans (HK4.out.trans (HK6.out.trans HK7.out))⟩
  | true =>
    rw [hfl] at HF1
    have HFL := hid hfl
    clear hfl
    go_wp2_with fail
    refine (HF1.out _ HK4.out).mono ?_
    rintro e w6 ⟨rfl, hk6⟩
    have HK6 := hid hk6
    clear hk6
    go_wp2_with fail
    go_loopw [33] (fun i wr => ∃ k : Nat, k ≤ n ∧ i = .int .i64 k ∧ Hid (Nm k0 k1 W3 bm (putsP (sipP k0 k1) (madeP (2 ^ kk)) (L.take k)) wr)) (fun i _ => n - (ivl i).toNat)
    case atStart => exact ⟨0, Nat.zero_le _, rfl, hid (HNM.out.kept HK6.out)⟩
    case round =>
      obtain ⟨k, hk, rfl, hT⟩ := hrel
      by_cases hlt : k < n
      · have hb0 : decide ((k : Int) < (n : Int)) = true := decide_eq_true (by omega)
        obtain ⟨x, hx⟩ : ∃ x, L[k]? = some x := ⟨_, List.getElem?_eq_getElem (by rw [HN.out]; exact hlt)⟩
        obtain ⟨x1, x2⟩ := x
        obtain ⟨b, o, rfl, hr⟩ := (H.out _ hT.out.old).2.2 (by omega)
        obtain ⟨g1, g2⟩ := scs_get hx
        have p1 := hr _ _ g1
        have p2 := hr _ _ g2
        rw [← Nat.add_assoc] at p2
        dsimp only at p1 p2
        have hb1 := World.block_lt_of_cell? _ _ p1
        have i0 : (0 : Int) ≤ (k : Int) := by omega
        have i1 : (k : Int) < (n : Int) := by omega
        have hkz := (HL.out.2 (x1, x2) (List.mem_of_getElem? hx)).1
        dsimp only at hkz
        have HX := hid hx
        clear hx hr g1 g2
        go_wp2_with fail
        refine (nm_put x1 x2 (by omega) HG.out (hT.out.kept (Kp.al _ _))).mono ?_
        rintro e w5 ⟨rfl, hm5⟩
        rw [← puts_take HX.out] at hm5
        have HM5 := hid hm5
        clear hm5
        go_wp2_with fail
        exact ⟨⟨k + 1, by omega, by go_num, HM5⟩, by simp [ivl]; omega⟩
      · have hb0 : decide ((k : Int) < (n : Int)) = false := decide_eq_false (by omega)
        obtain rfl : k = n := by omega
        have hT2 := hT.out
        rw [List.take_of_length_le (by rw [HN.out]; exact Nat.le_refl _)] at hT2
        have hX := few_pairs (H := sipP k0 k1) HKK.out HFL.out
        obtain ⟨P, hP⟩ : ∃ P, putsP (sipP k0 k1) (madeP (2 ^ kk)) L = P := ⟨_, rfl⟩
        rw [hP] at hT2 hX
        have HT1 := hid hT2
        obtain ⟨O, hlp, _, hold⟩ := hT2
        have hsr := pairs_srt hlp.inv
        have hmem : ∀ a b, (a, b) ∈ pairsP P → Has P a b := fun a b hh => pairs_mem.1 hh
        have HLP := hid hlp; have HOLD := hid hold; have HSR := hid hsr; have HMEM := hid hmem; have HX := hid hX
        clear hT hlp hold hP hsr hmem hX
        go_wp2_with fail
        refine (lm_pairs HLP.out).mono ?_
        rintro e w9 ⟨A9, c9, rfl, hf9, hk9⟩
        have HLEN := hid (fun W (k : Kp All w9 W) => lm_len ((HLP.out.all hk9).all k))
        obtain ⟨X, hXX⟩ : ∃ X, pairsP P = X := ⟨_, rfl⟩
        rw [hXX] at hf9 HX HSR HMEM HLEN ⊢
        have HXX := hid hXX
        obtain ⟨xl, hxl⟩ : ∃ xl, X.length = xl := ⟨_, rfl⟩
        have HXL := hid hxl
        rw [hxl] at hf9 HX HLEN ⊢
        have HF9 := hid hf9; have HK9 := hid hk9
        have hx3 := HX.out.1
        clear hf9 hk9 hXX hxl
        go_wp2_with fail
        go_loopw [48] (fun i wr => ∃ k : Nat, k ≤ xl ∧ i = .int .i64 k ∧ Hid (Kp All w9 wr)) (fun i _ => xl - (ivl i).toNat)
        case atStart => exact ⟨0, Nat.zero_le _, rfl, Kp.refl _ _⟩
        case round =>
          obtain ⟨k, hk, rfl, hT⟩ := hrel
          by_cases hlt : k < xl
          · have hb0 : decide ((k : Int) < (xl : Int)) = true := decide_eq_true (by omega)
            obtain ⟨x, hx⟩ : ∃ x, X[k]? = some x := ⟨_, List.getElem?_eq_getElem (by rw [HXL.out]; exact hlt)⟩
            obtain ⟨x1, x2⟩ := x
            obtain ⟨b, o, rfl, hr⟩ := (HF9.out _ hT.out).2.2 (by omega)
            obtain ⟨g1, g2⟩ := scs_get hx
            have p1 := hr _ _ g1
            have p2 := hr _ _ g2
            rw [← Nat.add_assoc] at p2
            dsimp only at p1 p2
            have hb1 := World.block_lt_of_cell? _ _ p1
            have i0 : (0 : Int) ≤ (k : Int) := by omega
            have i1 : (k : Int) < (xl : Int) := by omega
            have hmx := List.mem_of_getElem? hx
            have hkz := HX.out.2 (x1, x2) hmx
            have hhas := HMEM.out x1 x2 hmx
            dsimp only at hkz
            have HXK := hid hx
            have hss : (x2.toList == x2.toList) = true := by simp
            have HR := hid hr
            clear hx hr g1 g2 hmx
            go_wp2_with fail
            refine (lm_get (HLP.out.all (HK9.out.trans (hT.out.trans (Kp.al _ _)))) x1 x2 (by omega) hhas).mono ?_
            rintro e w10 ⟨rfl, hk10⟩
            have k10 : Kp All wr w10 := (Kp.al _ _).trans hk10
            have bp := hk10.heap (blk_new wr (.cells #[.string x1, .string x2] 42)) trivial
            have cp := blk_cell bp
            have K10 := hid k10
            clear p1 p2 bp hk10 hhas
            rcases Nat.eq_zero_or_pos k with hk0 | hk0
            · have d1 : decide ((0 : Int) < (k : Int)) = false := decide_eq_false (by omega)
              clear k10
              go_wp2_with fail
              go_quiet (fail)
              go_wp2_with fail
              exact ⟨⟨k + 1, by omega, by go_num, hid ((hT.out.trans K10.out).drewN _)⟩, by simp [ivl]; omega⟩
            · have d1 : decide ((0 : Int) < (k : Int)) = true := decide_eq_true (by omega)
              obtain ⟨a, ha⟩ : ∃ a, a + 1 = k := ⟨k - 1, by omega⟩
              obtain ⟨y, hy⟩ : ∃ y, X[a]? = some y := ⟨_, List.getElem?_eq_getElem (by rw [HXL.out]; omega)⟩
              obtain ⟨y1, y2⟩ := y
              have q1 := k10.cell (HR.out _ _ (scs_get hy).1) trivial
              dsimp only at q1
              have hlt2 : bl y1 < bl x1 := by
                have h1 := List.getElem?_eq_some_iff.1 hy
                have h2 := List.getElem?_eq_some_iff.1 HXK.out
                obtain ⟨h1, e1⟩ := h1
                obtain ⟨h2, e2⟩ := h2
                have := List.pairwise_iff_getElem.1 HSR.out a k h1 h2 (by omega)
                rw [e1, e2] at this
                exact this
              have hcm : Op.bytesLess y1.toList x1.toList = true := by rw [lss_tx]; exact decide_eq_true hlt2
              have hsub : IntKind.i64.wrap ((k : Int) - 1) = (a : Int) := by rw [show (k : Int) - 1 = (a : Int) from by omega]; exact IntWalk.i64_in _ (by omega)
              have a0 : (0 : Int) ≤ (a : Int) := by omega
              have a1 : (a : Int) < (xl : Int) := by omega
              have hb3 := World.block_lt_of_cell? _ _ q1
              clear hy k10 hlt2
              go_wp2_with fail
              go_quiet (fail)
              go_wp2_with fail
              exact ⟨⟨k + 1, by omega, by go_num, hid ((hT.out.trans K10.out).drewN _)⟩, by simp [ivl]; omega⟩
          · have hb0 : decide ((k : Int) < (xl : Int)) = false := decide_eq_false (by omega)
            obtain rfl : k = xl := by omega
            have bne : (!((k : Int) == (k : Int))) = false := by simp
            have hKw := HOLD.out.trans (HK9.out.trans hT.out)
            have ct := blk_cell (hKw.heap BT.out trivial)
            have HKW := hid hKw
            have HP2 := hid (HLP.out.all (HK9.out.trans hT.out))
            clear hKw
            obtain ⟨bf, hbf⟩ : ∃ bf, (f.toList == []) = bf := ⟨_, rfl⟩
            cases bf with
            | true =>
              go_wp2_with fail
              refine (HLEN.out _ hT.out).mono ?_
              rintro e w11 ⟨rfl, hw⟩
              have hw := hw.symm
              subst hw
              go_wp2_with fail
              refine (HLEN.out _ hT.out).mono ?_
              rintro e w12 ⟨rfl, hw⟩
              have hw := hw.symm
              subst hw
              have beq : ((k : Int) == (k : Int)) = true := by simp
              go_wp2_with fail
              refine (HLV.out _ HKW.out).mono ?_
              rintro e w7 ⟨rfl, hk7⟩
              have HK7 := hid hk7
              clear hk7
              go_wp2_with fail
              go_ret
              exact ⟨rfl, K3.out.trans (HKW.out.trans HK7.out)⟩
            | false =>
              go_wp2_with fail
              refine (HLEN.out _ hT.out).mono ?_
              rintro e w11 ⟨rfl, hw⟩
              have hw := hw.symm
              subst hw
              go_wp2_with fail
              have hf0 : f ≠ ByteArray.empty := by
                rw [emp_tx] at hbf
                exact of_decide_eq_false hbf
              have hjoin := rng_join (f := f) HSR.out (by rw [HXL.out]; omega) hf0
              have hl1 := rng_len X ByteArray.empty f 1000
              have hl2 := rng_len X f ByteArray.empty 1000
              have HRG := hid (fun W (k : Kp All wr W) lo hi n => lm_range (HP2.out.all k) lo hi n)
              rw [HXX.out] at HRG
              rw [HXL.out] at hl1 hl2
              obtain ⟨R1, hR1⟩ : ∃ R1, rangeP X ByteArray.empty f 1000 = R1 := ⟨_, rfl⟩
              obtain ⟨R2, hR2⟩ : ∃ R2, rangeP X f ByteArray.empty 1000 = R2 := ⟨_, rfl⟩
              have HA1 := hid (fun W k => HRG.out W k ByteArray.empty f 1000)
              have HA2 := hid (fun W k => HRG.out W k f ByteArray.empty 1000)
              rw [hR1] at hjoin hl1 HA1
              rw [hR2] at hjoin hl2 HA2
              have HJ := hid hjoin
              have HL1 := hid hl1; have HL2 := hid hl2
              have hbs := fun (w : World) => run_build0 (w := w) elP
              have HB9 := hid (HKW.out.heap BT.out trivial)
              clear hR1 hR2 hbf hf0 hjoin
              go_region_held3 (fun w' => (∀ i, w'.cell? ⟨w.heap.size + 1, i, none⟩ = (#[.string f, .string u, .int .i64 lim] : Array Value)[i]?)) (first | exact ct | exact blk_cell (KB.out.heap HB9.out trivial) | exact blk_cell (KA.out.heap HB9.out trivial)) (first | (go_at_call 9; refine (HA2.out _ KA.out).mono ?_; rintro e w14 ⟨AB, cB, rfl, hfb, hkb⟩; have HFB := hid hfb; have KB := hid (KA.out.trans hkb); have HFA2 := hid (HFA.out.step hkb); clear hfb hkb) | (go_at_call 9; refine (HA1.out _ (Kp.refl All wr).drew).mono ?_; rintro e w13 ⟨AA, cA, rfl, hfa, hka⟩; have HFA := hid hfa; have KA := hid ((Kp.refl All wr).drew.trans hka); clear hfa hka))
              obtain ⟨l1, hll1⟩ : ∃ l1, R1.length = l1 := ⟨_, rfl⟩
              obtain ⟨l2, hll2⟩ : ∃ l2, R2.length = l2 := ⟨_, rfl⟩
              rw [hll1] at HFA2 hl1 ⊢
              rw [hll2] at HFB hl2 ⊢
              have HLL1 := hid hll1; have HLL2 := hid hll2
              have HA0 := hid (own_build0 (w := w14) (e := 42) (sz := 2) (base := w14.heap.size) (Nat.le_refl _))
              have HS0 : Hid (Sl AA l1 cA 2 (scs R1) (w14.alloc (.cells #[] 42))) := hid (HFA2.out.step (Kp.al _ _)).now
              clear hll1 hll2
              go_wp2_with (at_builtin; first | (go_loud (refine wpList_app elP HOW15.out (HFB.out.step K15.out).now (scs_one R2) ?_ ?_ rfl _ _ rfl rfl rfl ?_); omega; (have := K15.out.size; omega); intro v' w16 hown16 hg16 hob16 hnil16; obtain ⟨A16, c16, rfl⟩ := own_shape hown16; have HOW16 := hid hown16; have K16 := hid (show Kp All w14 w16 from K15.out.then (Kp.grown hg16) (fun i hi _ e => by have := (HOW15.out.lt i e.symm).1; omega)); clear hown16 hg16 hob16 hnil16) | (go_loud (refine wpList_app elP HA0.out HS0.out (scs_one R1) ?_ ?_ rfl _ _ rfl rfl rfl ?_); omega; (simp only [World.size_alloc]; omega); intro v' w15 hown15 hg15 hob15 hnil15; simp only [Nat.zero_add, List.nil_append] at hown15; obtain ⟨A15, c15, rfl⟩ := own_shape hown15; have HOW15 := hid hown15; have K15 := hid (show Kp All w14 w15 from (Kp.al w14 _).then (Kp.grown hg15) (fun i hi _ e => by injection e with e; simp only at e; omega)); clear hown15 hg15 hob15 hnil15))
              have hf16 := own_foot2 HOW16.out
              rw [← scs_append, HJ.out] at hf16
              have hf9 := HF9.out.step (hT.out.trans (KB.out.trans K16.out))
              have hll : X.length = l1 + l2 := by rw [← HJ.out, List.length_append, HLL1.out, HLL2.out]
              refine (rsame07_any A16 A9 (l1 + l2) k c16 c9 X X hll HXL.out (by omega) (by omega) w16 hf16 hf9).mono ?_
              rw [decide_eq_true rfl]
              rintro e w17 ⟨rfl, hk17⟩
              have K17 := hid (KB.out.trans (K16.out.trans hk17))
              clear hf16 hf9 hk17
              have HRZ := HRG.out _ K17.out ByteArray.empty ByteArray.empty 0
              rw [rng_zero] at HRZ
              have HRZ := hid HRZ
              go_wp2_with fail
              refine HRZ.out.mono ?_
              rintro e w18 ⟨A18, c18, rfl, _, hk18⟩
              have K18 := hid (K17.out.trans hk18)
              clear hk18
              go_wp2_with fail
              refine (HLV.out _ (HKW.out.trans K18.out)).mono ?_
              rintro e w19 ⟨rfl, hk19⟩
              have K19 := hid hk19
              clear hk19
              go_wp2_with fail
              go_ret
              exact ⟨rfl, K3.out.trans (HKW.out.trans (K18.out.trans K19.out))⟩
end Go.Proofs.YtodledidabdkaaaDoor

namespace Go.Proofs.YtodledidabdkaaaDoor
open Go.RowKit Go.Shelf Go.Sort V
set_option linter.unusedVariables false
set_option linter.unusedSimpArgs false
theorem n2_del2 {a0 a1 b0 b1 : Nat} {w : World} {bp bq : Nat} {P Q : Mp} {W : World} (key : Tx) (hkey : key.size ≤ 9000000000000000000) (hgs : Gs w) (h : N2 a0 a1 b0 b1 w bp bq P Q W) : Calls Tryd.prog 19 #[.pointer (some ⟨bq, 0, none⟩), .string key] W fun e w' => e = .returned (.bool (delP (sipP b0 b1) Q key).2) ∧ N2 a0 a1 b0 b1 w bp bq P (delP (sipP b0 b1) Q key).1 w' := by
  obtain ⟨Op, Oq, h1, h2, h3, h4, h5, h6⟩ := h
  refine (mdel_any b0 b1 bq Q Oq key hkey W (hgs.kept h6 trivial) h2).mono ?_
  rintro e w' ⟨rfl, g1, g3⟩
  have := h6.size
  exact ⟨rfl, Op, Oq, h1.kept g3 (fun b hb ho => h5 b hb ho), g1, h3, h4, h5, h6.then g3 fun b hb _ e => absurd (h4 b e) (by omega)⟩
theorem encImg_le (X : List Slot) (hl : X.length ≤ 300) (hz : ∀ x ∈ X, x.1.size + x.2.size ≤ 15000) : (encImg X).length ≤ 1000000000 := by
  have h1 := encPrs_len X (fun x hx => by have := hz x hx; omega)
  have h2 := enc_len_le X.length
  unfold encImg
  rw [List.length_append]; omega
theorem import_back (k0 k1 : Nat) (h0 : k0 < 18446744073709551616) (h1 : k1 < 18446744073709551616) (X : List Slot) (hs : Srt X) (hl : X.length ≤ 300) (hz : ∀ x ∈ X, x.1.size + x.2.size ≤ 15000) (A : Option Addr) (n c : Nat) (hn : (encImg X).length = n) (w : World) (hgs : Gs w) (h : Foot All (Sl A n c 1 (u8s (encImg X))) w) :
    Calls Tryd.prog 20 #[.slice A n c, .agg #[.int .u64 k0, .int .u64 k1]] w fun e w' => ∃ bm M O, e = .returned (.tuple #[.pointer (some ⟨bm, 0, none⟩), .int .i64 0]) ∧ Lm k0 k1 bm M O w' ∧ pairsP M = X ∧ Kp All w w' := by
  have hle := encImg_le X hl hz
  refine (iimport_any k0 k1 h0 h1 A n c (encImg X) hn (by omega) w hgs h).mono ?_
  rw [readImg_enc hs (by omega) (fun x hx => by have := hz x hx; omega)]
  rintro e w' ⟨bm, k, hk, rfl, O, hL, _, hK⟩
  exact ⟨bm, _, O, rfl, hL, puts_srt hk hs (by omega), hK⟩
def qp (x : Slot) : Slot := (x.1 ++ ⟨#[63]⟩, ⟨#[]⟩)
def qk (x : Slot) : Tx := x.1 ++ ⟨#[63]⟩
def ql (x : Slot) : Slot := (x.1, ⟨#[101, 108, 100, 101, 114]⟩)
theorem map_at {α : Type} {L : List Slot} {k : Nat} {x : Slot} (g : Slot → α) (h : L[k]? = some x) : (L.map g)[k]? = some (g x) := by rw [List.getElem?_map, h]; rfl
theorem qk_size (x : Tx) (h : x.size ≤ 140737488351232) : (x ++ ⟨#[63]⟩ : ByteArray).size ≤ 9000000000000000000 := by
  rw [ByteArray.size_append]
  show x.size + 1 ≤ _
  omega
set_option maxRecDepth 100000 in
set_option maxHeartbeats 4000000 in
theorem imageBack_any (a0 a1 b0 b1 : Nat) (ha0 : a0 < 18446744073709551616) (ha1 : a1 < 18446744073709551616) (hb0 : b0 < 18446744073709551616) (hb1 : b1 < 18446744073709551616) (A : Option Addr) (n c : Nat) (L : List Slot) (hn : L.length = n) (hL : Szs L) (w : World) (hgs : Gs w) (h : Foot All (Sl A n c 2 (scs L)) w) :
    Calls Tryd.prog 6 #[.agg #[.int .u64 a0, .int .u64 a1], .agg #[.int .u64 b0, .int .u64 b1], .slice A n c] w fun e w' => e = .returned (.bool true) ∧ Kp All w w' := by
  obtain ⟨W3, hW3⟩ : ∃ W3, (w.alloc (.cells #[.int .u64 a0, .int .u64 a1] 28)).alloc (.cells #[.int .u64 b0, .int .u64 b1] 28) = W3 := ⟨_, rfl⟩
  have k3 : Kp All w W3 := hW3 ▸ (Kp.al _ _).alloc _
  have ba := blk_alloc (blk_new w (.cells #[.int .u64 a0, .int .u64 a1] 28)) (.cells #[.int .u64 b0, .int .u64 b1] 28)
  have bb := blk_new (w.alloc (.cells #[.int .u64 a0, .int .u64 a1] 28)) (.cells #[.int .u64 b0, .int .u64 b1] 28)
  simp only [World.size_alloc] at bb
  rw [hW3] at ba bb
  have ca := blk_cell ba; have cb := blk_cell bb
  have BA := hid ba; have BB := hid bb
  have H := hid (h.step k3)
  have HN := hid hn; have HL := hid hL
  have HG := hid (hgs.kept k3 trivial); have K3 := hid k3
  have hn9 : n ≤ 9000000000000000000 := hn ▸ hL.1
  have HBB := hid (And.intro hb0 hb1)
  clear ba bb k3 h hn hL hgs
  go_enter Tryd.func6, Tryd.ntmps6
  go_wp2_with fail
  go_region_held3 (fun w' => (∀ i, w'.cell? ⟨w.heap.size, i, none⟩ = (#[.int .u64 a0, .int .u64 a1] : Array Value)[i]?) ∧ (∀ i, w'.cell? ⟨w.heap.size + 1, i, none⟩ = (#[.int .u64 b0, .int .u64 b1] : Array Value)[i]?)) (first | exact ⟨ca, cb⟩ | exact ⟨blk_cell (HKB.out.heap BA.out trivial), blk_cell (HKB.out.heap BB.out trivial)⟩ | exact ⟨blk_cell (HKA.out.heap BA.out trivial), blk_cell (HKA.out.heap BB.out trivial)⟩) (first | (go_at_call 7; refine (n2_new (a0 := a0) (a1 := a1) 50 hb0 hb1 (by omega) HG.out HNM.out).mono ?_; rintro e w5 ⟨bq, kb, hkb, rfl, hn2, hk5⟩; have HN2 := hid hn2; have HKB := hid (HKA.out.trans hk5); have HQB := hid hkb; clear hn2 hk5 hkb) | (go_at_call 7; refine (nm_newg a0 a1 0 ha0 ha1 (by omega) W3 _ (Kp.refl All W3).drew HG.out).mono ?_; rintro e w4 ⟨bp, ka, hka, rfl, hnm, hk4⟩; have HNM := hid hnm; have HKA := hid ((Kp.refl All W3).drew.trans hk4); have HQA := hid hka; clear hnm hk4 hka))
  have HF1 := hid (fun W (k : Kp All W3 W) => few07_any A n c L HN.out hn9 HL.out.2 W (H.out.step k))
  have HLV := hid (fun W (k : Kp All W3 W) => lives07_any W (HG.out.kept k trivial))
  clear ca cb
  cases hfl : fewGo 0 L with
  | false =>
    rw [hfl] at HF1
    go_wp2_with fail
    refine (HF1.out _ HKB.out).mono ?_
    rintro e w6 ⟨rfl, hk6⟩
    have HK6 := hid hk6
    clear hk6
    go_wp2_with fail
    refine (HLV.out _ (HKB.out.trans HK6.out)).mono ?_
    rintro e w7 ⟨rfl, hk7⟩
    have HK7 := hid hk7
    clear hk7
    go_wp2_with fail
    go_ret
    exact ⟨rfl, K3.out.trans (HKB.out.trans (HK6.out.trans HK7.out))⟩
  | true =>
    rw [hfl] at HF1
    have HFL := hid hfl
    clear hfl
    go_wp2_with fail
    refine (HF1.out _ HKB.out).mono ?_
    rintro e w6 ⟨rfl, hk6⟩
    have HST0 := hid (HN2.out.kept hk6)
    clear hk6
    obtain ⟨P0, hP0⟩ : ∃ P0, madeP (2 ^ ka) = P0 := ⟨_, rfl⟩
    obtain ⟨Q0, hQ0⟩ : ∃ Q0, madeP (2 ^ kb) = Q0 := ⟨_, rfl⟩
    rw [hP0, hQ0] at HST0
    have HP0 := hid hP0; have HQ0 := hid hQ0
    clear hP0 hQ0
    go_wp2_with fail
    go_loopw [47] (fun i wr => ∃ k : Nat, k ≤ n ∧ i = .int .i64 k ∧ Hid (N2 a0 a1 b0 b1 W3 bp bq (putsP (sipP a0 a1) P0 (L.take k)) Q0 wr)) (fun i _ => n - (ivl i).toNat)
    case atStart => exact ⟨0, Nat.zero_le _, rfl, HST0⟩
    case round =>
      obtain ⟨k, hk, rfl, hT⟩ := hrel
      by_cases hlt : k < n
      · have hb0 : decide ((k : Int) < (n : Int)) = true := decide_eq_true (by omega)
        obtain ⟨x, hx⟩ : ∃ x, L[k]? = some x := ⟨_, List.getElem?_eq_getElem (by rw [HN.out]; exact hlt)⟩
        obtain ⟨x1, x2⟩ := x
        obtain ⟨b, o, rfl, hr⟩ := (H.out _ hT.out.old).2.2 (by omega)
        obtain ⟨g1, g2⟩ := scs_get hx
        have p1 := hr _ _ g1
        have p2 := hr _ _ g2
        rw [← Nat.add_assoc] at p2
        dsimp only at p1 p2
        have hb1 := World.block_lt_of_cell? _ _ p1
        have i0 : (0 : Int) ≤ (k : Int) := by omega
        have i1 : (k : Int) < (n : Int) := by omega
        have hkz := (HL.out.2 (x1, x2) (List.mem_of_getElem? hx)).1
        dsimp only at hkz
        have HX := hid hx
        clear hx hr g1 g2
        go_wp2_with fail
        refine (n2_put x1 x2 (by omega) HG.out (hT.out.kept (Kp.al _ _))).mono ?_
        rintro e w5 ⟨rfl, hm5⟩
        rw [← puts_take HX.out] at hm5
        have HM5 := hid hm5
        clear hm5
        go_wp2_with fail
        exact ⟨⟨k + 1, by omega, by go_num, HM5⟩, by simp [ivl]; omega⟩
      · have hb0 : decide ((k : Int) < (n : Int)) = false := decide_eq_false (by omega)
        have hkn : k = n := by omega
        have hT2 := hT.out
        rw [hkn, List.take_of_length_le (by first | (rw [List.length_map, HN.out]; exact Nat.le_refl _) | (rw [HN.out]; exact Nat.le_refl _))] at hT2
        obtain ⟨P1, hP1⟩ : ∃ z, putsP (sipP a0 a1) P0 L = z := ⟨_, rfl⟩
        rw [hP1] at hT2
        have HP1 := hid hP1
        have HST1 := hid hT2
        clear hkn hT2 hT hP1
        go_wp2_with fail
        go_loopw [60] (fun i wr => ∃ k : Nat, k ≤ n ∧ i = .int .i64 k ∧ Hid (N2 a0 a1 b0 b1 W3 bp bq P1 (putsP (sipP b0 b1) Q0 ((L.map qp).take k)) wr)) (fun i _ => n - (ivl i).toNat)
        case atStart => exact ⟨0, Nat.zero_le _, rfl, HST1⟩
        case round =>
          obtain ⟨k, hk, rfl, hT⟩ := hrel
          by_cases hlt : k < n
          · have hb0 : decide ((k : Int) < (n : Int)) = true := decide_eq_true (by omega)
            obtain ⟨x, hx⟩ : ∃ x, L[k]? = some x := ⟨_, List.getElem?_eq_getElem (by rw [HN.out]; exact hlt)⟩
            obtain ⟨x1, x2⟩ := x
            obtain ⟨b, o, rfl, hr⟩ := (H.out _ hT.out.old).2.2 (by omega)
            obtain ⟨g1, g2⟩ := scs_get hx
            have p1 := hr _ _ g1
            have p2 := hr _ _ g2
            rw [← Nat.add_assoc] at p2
            dsimp only at p1 p2
            have hb1 := World.block_lt_of_cell? _ _ p1
            have i0 : (0 : Int) ≤ (k : Int) := by omega
            have i1 : (k : Int) < (n : Int) := by omega
            have hkz := (HL.out.2 (x1, x2) (List.mem_of_getElem? hx)).1
            dsimp only at hkz
            have HX := hid hx
            clear hx hr g1 g2
            obtain ⟨kq, hkq⟩ : ∃ kq, x1 ++ ⟨#[63]⟩ = kq := ⟨_, rfl⟩
            have hkqz : kq.size ≤ 9000000000000000000 := hkq ▸ qk_size x1 hkz
            have HKQ : Hid (kq = qk (x1, x2)) := hid hkq.symm
            go_wp2_with fail
            refine (n2_put2 kq ⟨#[]⟩ hkqz HG.out (hT.out.kept (Kp.al _ _))).mono ?_
            rintro e w5 ⟨rfl, hm5⟩
            clear hkq hkqz
            have hst : (putP (sipP b0 b1) (putsP (sipP b0 b1) Q0 ((L.map qp).take k)) kq ⟨#[]⟩).1 = putsP (sipP b0 b1) Q0 ((L.map qp).take (k + 1)) := by rw [HKQ.out]; exact (puts_take (map_at qp HX.out)).symm
            rw [hst] at hm5
            clear hst
            have HM5 := hid hm5
            clear hm5
            go_wp2_with fail
            exact ⟨⟨k + 1, by omega, by go_num, HM5⟩, by simp [ivl]; omega⟩
          · have hb0 : decide ((k : Int) < (n : Int)) = false := decide_eq_false (by omega)
            have hkn : k = n := by omega
            have hT2 := hT.out
            rw [hkn, List.take_of_length_le (by first | (rw [List.length_map, HN.out]; exact Nat.le_refl _) | (rw [HN.out]; exact Nat.le_refl _))] at hT2
            obtain ⟨Q1, hQ1⟩ : ∃ z, putsP (sipP b0 b1) Q0 (L.map qp) = z := ⟨_, rfl⟩
            rw [hQ1] at hT2
            have HQ1 := hid hQ1
            have HST2 := hid hT2
            clear hkn hT2 hT hQ1
            go_wp2_with fail
            go_loopw [72] (fun i wr => ∃ k : Nat, k ≤ n ∧ i = .int .i64 k ∧ Hid (N2 a0 a1 b0 b1 W3 bp bq P1 (delsP (sipP b0 b1) Q1 ((L.map qk).take k)) wr)) (fun i _ => n - (ivl i).toNat)
            case atStart => exact ⟨0, Nat.zero_le _, rfl, HST2⟩
            case round =>
              obtain ⟨k, hk, rfl, hT⟩ := hrel
              by_cases hlt : k < n
              · have hb0 : decide ((k : Int) < (n : Int)) = true := decide_eq_true (by omega)
                obtain ⟨x, hx⟩ : ∃ x, L[k]? = some x := ⟨_, List.getElem?_eq_getElem (by rw [HN.out]; exact hlt)⟩
                obtain ⟨x1, x2⟩ := x
                obtain ⟨b, o, rfl, hr⟩ := (H.out _ hT.out.old).2.2 (by omega)
                obtain ⟨g1, g2⟩ := scs_get hx
                have p1 := hr _ _ g1
                have p2 := hr _ _ g2
                rw [← Nat.add_assoc] at p2
                dsimp only at p1 p2
                have hb1 := World.block_lt_of_cell? _ _ p1
                have i0 : (0 : Int) ≤ (k : Int) := by omega
                have i1 : (k : Int) < (n : Int) := by omega
                have hkz := (HL.out.2 (x1, x2) (List.mem_of_getElem? hx)).1
                dsimp only at hkz
                have HX := hid hx
                clear hx hr g1 g2
                obtain ⟨kq, hkq⟩ : ∃ kq, x1 ++ ⟨#[63]⟩ = kq := ⟨_, rfl⟩
                have hkqz : kq.size ≤ 9000000000000000000 := hkq ▸ qk_size x1 hkz
                have HKQ : Hid (kq = qk (x1, x2)) := hid hkq.symm
                go_wp2_with fail
                refine (n2_del2 kq hkqz HG.out (hT.out.kept (Kp.al _ _))).mono ?_
                rintro e w5 ⟨rfl, hm5⟩
                clear hkq hkqz
                have hst : (delP (sipP b0 b1) (delsP (sipP b0 b1) Q1 ((L.map qk).take k)) kq).1 = delsP (sipP b0 b1) Q1 ((L.map qk).take (k + 1)) := by rw [HKQ.out]; exact (dels_take (map_at qk HX.out)).symm
                rw [hst] at hm5
                clear hst
                have HM5 := hid hm5
                clear hm5
                go_wp2_with fail
                exact ⟨⟨k + 1, by omega, by go_num, HM5⟩, by simp [ivl]; omega⟩
              · have hb0 : decide ((k : Int) < (n : Int)) = false := decide_eq_false (by omega)
                have hkn : k = n := by omega
                have hT2 := hT.out
                rw [hkn, List.take_of_length_le (by first | (rw [List.length_map, HN.out]; exact Nat.le_refl _) | (rw [HN.out]; exact Nat.le_refl _))] at hT2
                obtain ⟨Q2, hQ2⟩ : ∃ z, delsP (sipP b0 b1) Q1 (L.map qk) = z := ⟨_, rfl⟩
                rw [hQ2] at hT2
                have HQ2 := hid hQ2
                have HST3 := hid hT2
                clear hkn hT2 hT hQ2
                go_wp2_with fail
                go_loopw [84] (fun i wr => ∃ k : Nat, k ≤ n ∧ i = .int .i64 k ∧ Hid (N2 a0 a1 b0 b1 W3 bp bq P1 (putsP (sipP b0 b1) Q2 ((L.map ql).take k)) wr)) (fun i _ => n - (ivl i).toNat)
                case atStart => exact ⟨0, Nat.zero_le _, rfl, HST3⟩
                case round =>
                  obtain ⟨k, hk, rfl, hT⟩ := hrel
                  by_cases hlt : k < n
                  · have hb0 : decide ((k : Int) < (n : Int)) = true := decide_eq_true (by omega)
                    obtain ⟨x, hx⟩ : ∃ x, L[k]? = some x := ⟨_, List.getElem?_eq_getElem (by rw [HN.out]; exact hlt)⟩
                    obtain ⟨x1, x2⟩ := x
                    obtain ⟨b, o, rfl, hr⟩ := (H.out _ hT.out.old).2.2 (by omega)
                    obtain ⟨g1, g2⟩ := scs_get hx
                    have p1 := hr _ _ g1
                    have p2 := hr _ _ g2
                    rw [← Nat.add_assoc] at p2
                    dsimp only at p1 p2
                    have hb1 := World.block_lt_of_cell? _ _ p1
                    have i0 : (0 : Int) ≤ (k : Int) := by omega
                    have i1 : (k : Int) < (n : Int) := by omega
                    have hkz := (HL.out.2 (x1, x2) (List.mem_of_getElem? hx)).1
                    dsimp only at hkz
                    have HX := hid hx
                    clear hx hr g1 g2
                    go_wp2_with fail
                    refine (n2_put2 x1 ⟨#[101, 108, 100, 101, 114]⟩ (by omega) HG.out (hT.out.kept (Kp.al _ _))).mono ?_
                    rintro e w5 ⟨rfl, hm5⟩
                    have hst : (putP (sipP b0 b1) (putsP (sipP b0 b1) Q2 ((L.map ql).take k)) x1 ⟨#[101, 108, 100, 101, 114]⟩).1 = putsP (sipP b0 b1) Q2 ((L.map ql).take (k + 1)) := (puts_take (map_at ql HX.out)).symm
                    rw [hst] at hm5
                    clear hst
                    have HM5 := hid hm5
                    clear hm5
                    go_wp2_with fail
                    exact ⟨⟨k + 1, by omega, by go_num, HM5⟩, by simp [ivl]; omega⟩
                  · have hb0 : decide ((k : Int) < (n : Int)) = false := decide_eq_false (by omega)
                    have hkn : k = n := by omega
                    have hT2 := hT.out
                    rw [hkn, List.take_of_length_le (by first | (rw [List.length_map, HN.out]; exact Nat.le_refl _) | (rw [HN.out]; exact Nat.le_refl _))] at hT2
                    obtain ⟨Q3, hQ3⟩ : ∃ z, putsP (sipP b0 b1) Q2 (L.map ql) = z := ⟨_, rfl⟩
                    rw [hQ3] at hT2
                    have HQ3 := hid hQ3
                    have HST4 := hid hT2
                    clear hkn hT2 hT hQ3
                    go_wp2_with fail
                    go_loopw [95] (fun i wr => ∃ k : Nat, k ≤ n ∧ i = .int .i64 k ∧ Hid (N2 a0 a1 b0 b1 W3 bp bq P1 (putsP (sipP b0 b1) Q3 (L.take k)) wr)) (fun i _ => n - (ivl i).toNat)
                    case atStart => exact ⟨0, Nat.zero_le _, rfl, HST4⟩
                    case round =>
                      obtain ⟨k, hk, rfl, hT⟩ := hrel
                      by_cases hlt : k < n
                      · have hb0 : decide ((k : Int) < (n : Int)) = true := decide_eq_true (by omega)
                        obtain ⟨x, hx⟩ : ∃ x, L[k]? = some x := ⟨_, List.getElem?_eq_getElem (by rw [HN.out]; exact hlt)⟩
                        obtain ⟨x1, x2⟩ := x
                        obtain ⟨b, o, rfl, hr⟩ := (H.out _ hT.out.old).2.2 (by omega)
                        obtain ⟨g1, g2⟩ := scs_get hx
                        have p1 := hr _ _ g1
                        have p2 := hr _ _ g2
                        rw [← Nat.add_assoc] at p2
                        dsimp only at p1 p2
                        have hb1 := World.block_lt_of_cell? _ _ p1
                        have i0 : (0 : Int) ≤ (k : Int) := by omega
                        have i1 : (k : Int) < (n : Int) := by omega
                        have hkz := (HL.out.2 (x1, x2) (List.mem_of_getElem? hx)).1
                        dsimp only at hkz
                        have HX := hid hx
                        clear hx hr g1 g2
                        go_wp2_with fail
                        refine (n2_put2 x1 x2 (by omega) HG.out (hT.out.kept (Kp.al _ _))).mono ?_
                        rintro e w5 ⟨rfl, hm5⟩
                        rw [← puts_take HX.out] at hm5
                        have HM5 := hid hm5
                        clear hm5
                        go_wp2_with fail
                        exact ⟨⟨k + 1, by omega, by go_num, HM5⟩, by simp [ivl]; omega⟩
                      · have hb0 : decide ((k : Int) < (n : Int)) = false := decide_eq_false (by omega)
                        have hkn : k = n := by omega
                        have hT2 := hT.out
                        rw [hkn, List.take_of_length_le (by first | (rw [List.length_map, HN.out]; exact Nat.le_refl _) | (rw [HN.out]; exact Nat.le_refl _))] at hT2
                        obtain ⟨Q4, hQ4⟩ : ∃ z, putsP (sipP b0 b1) Q3 L = z := ⟨_, rfl⟩
                        rw [hQ4] at hT2
                        have HQ4 := hid hQ4
                        have HST5 := hid hT2
                        clear hkn hT2 hT hQ4
                        go_wp2_with fail
                        have hl3 := (few_le HFL.out (by omega)).1
                        have hpq : pairsP P1 = pairsP Q4 := by
                          rw [← HP1.out, ← HP0.out, ← HQ4.out, ← HQ3.out, ← HQ2.out, ← HQ1.out, ← HQ0.out]
                          exact back_eq HQA.out HQB.out (l := L) (by omega) (fun t => t ++ ⟨#[63]⟩) ⟨#[101, 108, 100, 101, 114]⟩ ⟨#[]⟩
                        have hX := few_pairs (H := sipP a0 a1) HQA.out HFL.out
                        rw [HP0.out, HP1.out] at hX
                        obtain ⟨Op, Oq, hlp, hlq, _⟩ := HST5.out
                        have hsr := pairs_srt hlp.inv
                        have HLP := hid hlp; have HLQ := hid hlq; have HX := hid hX; have HSR := hid hsr; have HPQ := hid hpq
                        have HOLD := hid (K3.out.trans HST5.out.old)
                        have HO3 := hid HST5.out.old
                        clear hl3 hpq hX hlp hlq hsr
                        refine (lm_export (fun x hx => by have := HX.out.2 x hx; omega) HLP.out).mono ?_
                        rintro e w14 ⟨A3, n3, c3, rfl, hn3, hf3, hk14⟩
                        have HN3 := hid hn3; have HFC := hid hf3; have HK14 := hid hk14
                        clear hf3 hk14 hn3
                        go_wp2_with fail
                        refine (lm_export (fun x hx => by rw [← HPQ.out] at hx; have := HX.out.2 x hx; omega) (HLQ.out.all HK14.out)).mono ?_
                        rintro e w15 ⟨A4, n4, c4, rfl, hn4, hf4, hk15⟩
                        rw [← HPQ.out] at hn4 hf4
                        have HN4 := hid hn4; have HFC2 := hid (HFC.out.step hk15); have HFD := hid hf4; have HK15 := hid (HK14.out.trans hk15)
                        clear hf4 hk15 hn4
                        go_wp2_with fail
                        refine (rsame_any A3 A4 n3 c3 n4 c4 (encImg (pairsP P1)) (encImg (pairsP P1)) HN3.out HN4.out w15 HFC2.out.now HFD.out.now).mono ?_
                        rw [decide_eq_true rfl]
                        rintro e w16 ⟨rfl, hw⟩
                        subst hw
                        go_wp2_with fail
                        refine (n2_same (HST5.out.kept HK15.out)).mono ?_
                        rw [decide_eq_true HPQ.out]
                        rintro e w17 ⟨rfl, hk17⟩
                        have HK17 := hid (HK15.out.trans hk17)
                        have ct := blk_cell ((HO3.out.trans (HK15.out.trans hk17)).heap BB.out trivial)
                        have HB7 := hid ((HO3.out.trans (HK15.out.trans hk17)).heap BB.out trivial)
                        clear hk17
                        go_wp2_with fail
                        go_region_held3 (fun w' => (∀ i, w'.cell? ⟨w.heap.size + 1, i, none⟩ = (#[.int .u64 b0, .int .u64 b1] : Array Value)[i]?)) (first | exact ct | exact blk_cell (KB.out.heap HB7.out trivial) | exact blk_cell (KA.out.heap HB7.out trivial)) (first | (go_at_call 20; refine (import_back b0 b1 HBB.out.1 HBB.out.2 (pairsP P1) HSR.out HX.out.1 HX.out.2 A5 n5 c5 HN5.out _ (HG.out.kept (HO3.out.trans (HK17.out.trans (by exact KA.out))) trivial) (by exact HFE.out)).mono ?_; rintro e w21 ⟨bz, MZ, OZ, rfl, hlz, hpz, hkb⟩; have HLZ := hid hlz; have HPZ := hid hpz; have KB := hid (KA.out.trans hkb); clear hlz hpz hkb) | (go_at_call 11; refine (lm_export (fun x hx => by have := HX.out.2 x hx; omega) (HLP.out.all (HK17.out.trans (Kp.refl All w17).drew))).mono ?_; rintro e w20 ⟨A5, n5, c5, rfl, hn5, hf5, hka⟩; have HN5 := hid hn5; have HFE := hid hf5; have KA := hid ((Kp.refl All w17).drew.trans hka); clear hn5 hf5 hka))
                        go_wp2_with fail
                        refine (isame_any a0 a1 b0 b1 (some bp) (some bz) P1 MZ Op OZ _ (HLP.out.all (HK17.out.trans KB.out)) HLZ.out).mono ?_
                        rw [decide_eq_true HPZ.out.symm]
                        rintro e w22 ⟨rfl, hk22⟩
                        have K22 := hid (HK17.out.trans (KB.out.trans hk22))
                        clear hk22
                        go_wp2_with fail
                        refine (HLV.out _ (HO3.out.trans K22.out)).mono ?_
                        rintro e w23 ⟨rfl, hk23⟩
                        have K23 := hid hk23
                        clear hk23
                        go_wp2_with fail
                        go_ret
                        exact ⟨rfl, HOLD.out.trans (K22.out.trans K23.out)⟩
end Go.Proofs.YtodledidabdkaaaDoor
