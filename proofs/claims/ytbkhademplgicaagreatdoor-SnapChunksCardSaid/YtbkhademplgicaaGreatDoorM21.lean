/- The document's nums, list, conf, snap, SnapBytes: walked once each. No condition but that the rows lie. The document's Frame: walked once. No condition but that the row lies and is not great. The document's Unframe: walked once. No condition but that the row is not great. The document's Chunks: walked once. No condition but that the snapshot lies and is not great. The document's Whole: walked once, of a good snapshot. -/
import Derived.Test.YtbkhademplgicaaGreatDoorM19
set_option linter.unusedVariables false
set_option linter.unusedSimpArgs false
namespace Go.Proofs.YtbkhademplgicaaGreatDoor
open Go.RowKit
set_option linter.unusedVariables false
set_option linter.unusedSimpArgs false
set_option maxRecDepth 100000 in
set_option maxHeartbeats 1000000 in
theorem rnums_any (v : Value) (xs : By) (A : Option Addr) (n c : Nat) (zs : List Int) (hn : zs.length = n) (h0 : 0 < n) (hz : Ints64 zs) (hlen : xs.length + 9 * n ≤ 140737488300000) (w : World) (h : Foot All (Rb v xs) w) (hs : Foot All (Sl A n c 1 (ivs zs)) w) :
    Calls Tryz.prog 124 #[v, .slice A n c] w (OutB w (xs ++ zs.flatMap encZg)) := by
  have H := hid h; have HS := hid hs; have HN := hid hn; have HZ := hid hz
  clear h hs hn hz
  go_enter Tryz.func124, Tryz.ntmps124
  go_wp2_with fail
  go_loopw [0, 9] (fun x i wr => ∃ k : Nat, k ≤ n ∧ i = .int .i64 k ∧ Hid (Foot All (Rb x (xs ++ (zs.take k).flatMap encZg)) wr) ∧ Hid (0 < k → wr.ownsRow w.heap.size 5 1 x (xs ++ (zs.take k).flatMap encZg).length (u8s (xs ++ (zs.take k).flatMap encZg))) ∧ Hid (Kp All w wr)) (fun _ i _ => n - (intOf i).toNat)
  case atStart => exact ⟨0, Nat.zero_le _, rfl, hid (by simpa using H.out), hid (fun h => absurd h (by omega)), Kp.refl _ _⟩
  case round =>
    obtain ⟨k, hk, rfl, hrb, hown, hkp⟩ := hrel
    by_cases hlt : k < n
    · have hb0 : decide ((k : Int) < (n : Int)) = true := decide_eq_true (by omega)
      obtain ⟨z, hz⟩ : ∃ z, zs[k]? = some z := ⟨_, List.getElem?_eq_getElem (by rw [HN.out]; exact hlt)⟩
      obtain ⟨b, o, rfl, hc⟩ := sl_int (HS.out.step hkp.out).now hz
      have hzi := HZ.out z (List.mem_of_getElem? hz)
      have i0 : (0 : Int) ≤ (k : Int) := by omega
      have i1 : (k : Int) < (n : Int) := by omega
      have hfl := flat_len (zs.take k)
      rw [List.length_take] at hfl
      have HZ1 := hid hz
      have HZI := hid hzi
      have hll : (xs ++ (zs.take k).flatMap encZg).length ≤ 140737488300000 := by rw [List.length_append]; omega
      have HLL := hid hll
      clear hz hzi hfl hll
      go_wp2_with fail
      refine (rzig_any z HZI.out.1 HZI.out.2 _).mono ?_
      rintro e w1 ⟨rfl, rfl⟩
      go_wp2_with fail
      refine (rput_any _ _ (zig z) (zig_lt z HZI.out.1 HZI.out.2) HLL.out _ hrb.out.now).mono ?_
      rintro e w2 ⟨⟨v2, rfl, ho2⟩, hk2⟩
      have e2 : xs ++ (zs.take k).flatMap encZg ++ enc (zig z) = xs ++ (zs.take (k + 1)).flatMap encZg := by rw [flat_take HZ1.out, List.append_assoc]; rfl
      rw [e2] at ho2
      have HO2 := hid (World.ownsRow.mono ho2 hkp.out.size)
      have HK2 := hid (hkp.out.trans hk2)
      clear ho2 hk2 e2
      go_wp2_with fail
      exact ⟨⟨k + 1, by omega, by go_num, hid (own_rbf HO2.out), hid (fun _ => HO2.out), HK2⟩, by simp [intOf]; omega⟩
    · have hb0 : decide ((k : Int) < (n : Int)) = false := decide_eq_false (by omega)
      obtain rfl : k = n := by omega
      have ho := hown.out h0
      rw [List.take_of_length_le (by rw [HN.out]; exact Nat.le_refl _)] at ho
      obtain ⟨AX, cx, rfl⟩ := own_shape ho
      obtain ⟨m, hm⟩ : ∃ m, (xs ++ zs.flatMap encZg).length = m := ⟨_, rfl⟩
      have HO := hid ho; have HM := hid hm
      rw [hm] at ho ⊢
      clear ho hm
      go_wp2_with fail
      go_ret
      exact ⟨⟨_, rfl, by have := HO.out; rwa [HM.out] at this ⊢⟩, hkp.out⟩
set_option maxRecDepth 100000 in
theorem rnums_nil (v : Value) (xs : By) (A : Option Addr) (c : Nat) (w : World) (h : Foot All (Rb v xs) w) (base : Nat) (ho : w.ownsRow base 5 1 v xs.length (u8s xs)) :
    Calls Tryz.prog 124 #[v, .slice A ((0 : Nat) : Nat) c] w fun e w' => e = .returned v ∧ w = w' := by
  clear h ho
  go_enter Tryz.func124, Tryz.ntmps124
  go_wp2_with fail
  go_loop [0, 9] (fun s i => s = v ∧ i = .int .i64 0) (fun _ _ => 0)
  case atStart => exact ⟨rfl, rfl⟩
  case round =>
    obtain ⟨rfl, rfl⟩ := hrel
    go_wp2_with fail
    go_ret
    exact ⟨rfl, rfl⟩
set_option maxRecDepth 100000 in
theorem rlist_any (v : Value) (xs : By) (A : Option Addr) (n c : Nat) (zs : List Int) (hn : zs.length = n) (hz : Ints64 zs) (hlen : xs.length + 9 * n ≤ 140737488100000) (w : World) (h : Foot All (Rb v xs) w) (hs : Foot All (Sl A n c 1 (ivs zs)) w) :
    Calls Tryz.prog 153 #[v, .slice A n c] w (OutB w (xs ++ encList zs)) := by
  have H := hid h; have HS := hid hs; have HN := hid hn; have HZ := hid hz
  have hnm : (n : Int) % 18446744073709551616 = (n : Int) := by omega
  have h9 := enc_len_le n
  clear h hs hn hz
  go_enter Tryz.func153, Tryz.ntmps153
  go_wp2_with fail
  refine (rput_any v xs n (by omega) (by omega) _ H.out.now).mono ?_
  rintro e w1 ⟨⟨v1, rfl, ho1⟩, hk1⟩
  have HO1 := hid ho1; have HK1 := hid hk1
  have hl1 : (xs ++ enc n).length ≤ xs.length + 9 := by rw [List.length_append]; omega
  have HL1 := hid hl1
  clear ho1 hk1 hl1
  go_wp2_with fail
  by_cases h0 : 0 < n
  case neg =>
    obtain rfl : n = 0 := by omega
    have HZ0 := hid (show zs = [] from List.eq_nil_of_length_eq_zero HN.out)
    refine (rnums_nil v1 (xs ++ enc 0) A c w1 (own_rbf HO1.out) w.heap.size HO1.out).mono ?_
    rintro e w2 ⟨rfl, rfl⟩
    go_wp2_with fail
    go_ret
    refine ⟨⟨_, rfl, ?_⟩, HK1.out⟩
    rw [HZ0.out, encList]
    simpa using HO1.out
  refine (rnums_any v1 (xs ++ enc n) A n c zs HN.out h0 HZ.out (by have := HL1.out; omega) w1 (own_rbf HO1.out) (HS.out.step HK1.out)).mono ?_
  rintro e w2 ⟨⟨v2, rfl, ho2⟩, hk2⟩
  have e3 : xs ++ enc n ++ zs.flatMap encZg = xs ++ encList zs := by rw [encList, HN.out, List.append_assoc]
  rw [e3] at ho2
  have ho3 := World.ownsRow.mono (base' := w.heap.size) ho2 HK1.out.size
  obtain ⟨AX, cx, rfl⟩ := own_shape ho3
  obtain ⟨m, hm⟩ : ∃ m, (xs ++ encList zs).length = m := ⟨_, rfl⟩
  have HO := hid ho3; have HM := hid hm; have HK2 := hid (HK1.out.trans hk2)
  rw [hm]
  clear ho2 ho3 hm hk2 e3
  go_wp2_with fail
  go_ret
  exact ⟨⟨_, rfl, by have := HO.out; rwa [HM.out] at this ⊢⟩, HK2.out⟩
set_option maxRecDepth 100000 in
set_option maxHeartbeats 1000000 in
theorem rconf_any (v : Value) (xs : By) (VA LA : Option Addr) (vn vc ln lc : Nat) (V L : List Int) (hlen : xs.length + 9 * (vn + ln) ≤ 140737488000000) (w : World) (h : Foot All (Rb v xs) w) (hc : Cf VA LA vn vc ln lc V L w) :
    Calls Tryz.prog 123 #[v, .agg #[.slice VA vn vc, .slice LA ln lc]] w (OutB w (xs ++ encConf V L)) := by
  have H := hid h; have HC := hid hc
  clear h hc
  go_enter Tryz.func123, Tryz.ntmps123
  go_wp2_with fail
  have b7 := blk_new w (Obj.cells #[.slice VA vn vc, .slice LA ln lc] 24)
  have k7 : Kp All w (w.alloc (Obj.cells #[.slice VA vn vc, .slice LA ln lc] 24)).drew := (Kp.al _ _).drew
  obtain ⟨W7, hW7⟩ : ∃ W7, W7 = w.alloc (Obj.cells #[.slice VA vn vc, .slice LA ln lc] 24) := ⟨_, rfl⟩
  rw [← hW7] at b7 k7 ⊢
  have c7 := blk_cell b7
  have B7 := hid b7; have K7 := hid k7
  clear b7 hW7 k7
  go_region_held3 (fun w' => ∀ i, w'.cell? ⟨w.heap.size, i, none⟩ = (#[.slice VA vn vc, .slice LA ln lc] : Array Value)[i]?) (first | exact blk_cell HB9.out | exact blk_cell HB8.out | assumption) (first | (go_at_call 153; have h8 := HO8.out; clear h8; refine (rlist_any v8 (xs ++ encList V) LA ln lc L HC.out.ln HC.out.lz HL8.out _ (own_rbf HO8.out) (HC.out.l.step HK8.out)).mono ?_; rintro e w9 ⟨⟨v9, rfl, ho9⟩, hk9⟩; have HO9 := hid ho9; have HK9 := hid (HK8.out.trans hk9); have HB9 := hid (hk9.heap HB8.out trivial); clear ho9 hk9) | (go_at_call 153; refine (rlist_any v xs VA vn vc V HC.out.vn HC.out.vz (by omega) _ (H.out.step K7.out) (HC.out.v.step K7.out)).mono ?_; rintro e w8 ⟨⟨v8, rfl, ho8⟩, hk8⟩; have HL8 : Hid ((xs ++ encList V).length + 9 * ln ≤ 140737488100000) := (by have h1 := flat_len V; have h2 := enc_len_le V.length; have h3 := HC.out.vn; simp only [encList, List.length_append]; exact hid (by omega)); have HO8 := hid ho8; have HK8 := hid (K7.out.trans hk8); have HB8 := hid (hk8.heap B7.out trivial); clear ho8 hk8))
  have ho : w9.ownsRow w.heap.size 5 1 v9 (xs ++ encConf V L).length (u8s (xs ++ encConf V L)) := by
    have h1 := World.ownsRow.mono (base' := w.heap.size) HO9.out HK8.out.size
    rwa [List.append_assoc] at h1
  obtain ⟨A9, c9', rfl⟩ := own_shape ho
  obtain ⟨m, hm⟩ : ∃ m, (xs ++ encConf V L).length = m := ⟨_, rfl⟩
  have HO := hid ho; have HM := hid hm
  rw [hm]
  clear ho hm HO9
  go_wp2_with fail
  go_ret
  exact ⟨⟨_, rfl, by have := HO.out; rwa [HM.out] at this ⊢⟩, HK9.out⟩
set_option maxRecDepth 100000 in
set_option maxHeartbeats 2000000 in
theorem rsnap_any (v : Value) (xs : By) (x : Sn) (VA LA DA : Option Addr) (vn vc ln lc dn dc : Nat) (hlen : xs.length + 9 * (vn + ln) + dn ≤ 140737487000000) (w : World) (h : Foot All (Rb v xs) w) (hs : Snp x VA LA DA vn vc ln lc dn dc w) :
    Calls Tryz.prog 80 #[v, .agg #[.int .i64 x.index, .int .i64 x.term, .slice VA vn vc, .slice LA ln lc, .slice DA dn dc]] w (OutB w (xs ++ encSnap x)) := by
  have H := hid h; have HS := hid hs
  clear h hs
  go_enter Tryz.func80, Tryz.ntmps80
  go_wp2_with fail
  have b7 := blk_new w (Obj.cells #[.int .i64 x.index, .int .i64 x.term, .slice VA vn vc, .slice LA ln lc, .slice DA dn dc] 27)
  have k7 : Kp All w (w.alloc (Obj.cells #[.int .i64 x.index, .int .i64 x.term, .slice VA vn vc, .slice LA ln lc, .slice DA dn dc] 27)).drew := (Kp.al _ _).drew
  obtain ⟨W7, hW7⟩ : ∃ W7, W7 = w.alloc (Obj.cells #[.int .i64 x.index, .int .i64 x.term, .slice VA vn vc, .slice LA ln lc, .slice DA dn dc] 27) := ⟨_, rfl⟩
  rw [← hW7] at b7 k7 ⊢
  have c7 := blk_cell b7
  have hcv : ∀ u, Kp All w u → (convert 25 9 (.slice DA dn dc)).run Tryz.prog u = .ok (.string (strOfB x.data)) u := by
    intro u hu
    refine run_conv_row ⟨DA, dc, by rw [HS.out.dn], ?_⟩
    rw [HS.out.dn]
    exact (HS.out.d.step hu).now
  have HCV := hid hcv
  have c8 := hcv _ k7
  clear hcv
  have hds : (strOfB x.data).size = dn := by rw [← HS.out.dn]; simp [strOfB, ByteArray.size]
  have HDS := hid hds
  clear hds
  have B7 := hid b7; have K7 := hid k7
  clear b7 hW7 k7
  go_region_held3 (fun w' => (∀ i, w'.cell? ⟨w.heap.size, i, none⟩ = (#[.int .i64 x.index, .int .i64 x.term, .slice VA vn vc, .slice LA ln lc, .slice DA dn dc] : Array Value)[i]?) ∧ (convert 25 9 (.slice DA dn dc)).run Tryz.prog w' = .ok (.string (strOfB x.data)) w') (first | exact ⟨blk_cell HB10.out, HCV.out _ HK10.out⟩ | exact ⟨blk_cell HB9.out, HCV.out _ HK9.out⟩ | exact ⟨blk_cell HB8.out, HCV.out _ HK8.out⟩ | exact ⟨blk_cell (blk_alloc B7.out _), HCV.out _ (K7.out.alloc _)⟩ | exact ⟨c7, c8⟩ | assumption) (first | (go_at_call 124; refine (rnums_any v xs _ 2 2 [x.index, x.term] rfl (by omega) (fun y hy => by rcases List.mem_cons.1 hy with rfl | hy; exact HS.out.i; rw [List.mem_singleton.1 hy]; exact HS.out.t) (by omega) _ (H.out.step (K7.out.alloc _)) (sl_ints2 _ _ _ _)).mono ?_; rintro e w8 ⟨⟨v8, rfl, ho8⟩, hk8⟩; have HO8 := hid ho8; have HL8 : Hid ((xs ++ [x.index, x.term].flatMap encZg).length + 9 * (vn + ln) ≤ 140737488000000) := (by have h1 := flat_len [x.index, x.term]; simp only [List.length_append, List.length_cons, List.length_nil] at h1 ⊢; exact hid (by omega)); have HL9 : Hid ((xs ++ [x.index, x.term].flatMap encZg ++ encConf x.V x.L).length + (strOfB x.data).size ≤ 140737488200000) := (by have h1 := flat_len [x.index, x.term]; have h2 := flat_len x.V; have h3 := flat_len x.L; have h4 := enc_len_le x.V.length; have h5 := enc_len_le x.L.length; have h6 := HS.out.cf.vn; have h7 := HS.out.cf.ln; have h8 := HDS.out; simp only [encConf, encList, List.length_append, List.length_cons, List.length_nil] at h1 ⊢; exact hid (by omega)); have HK8 := hid ((K7.out.alloc _).trans hk8); have HB8 := hid (hk8.heap (blk_alloc B7.out _) trivial); clear ho8 hk8) | (go_at_call 123; have h8 := HO8.out; clear h8; refine (rconf_any v8 _ VA LA vn vc ln lc x.V x.L HL8.out _ (own_rbf HO8.out) (HS.out.cf.step HK8.out)).mono ?_; rintro e w9 ⟨⟨v9, rfl, ho9⟩, hk9⟩; have HO9 := hid ho9; have HK9 := hid (HK8.out.trans hk9); have HB9 := hid (hk9.heap HB8.out trivial); clear ho9 hk9) | (go_at_call 122; have h9 := HO9.out; clear h9; refine (rputtext_any v9 _ (strOfB x.data) HL9.out _ (own_rbf HO9.out).now).mono ?_; rintro e w10 ⟨⟨v10, rfl, ho10⟩, hk10⟩; have HO10 := hid ho10; have HK10 := hid (HK9.out.trans hk10); have HB10 := hid (hk10.heap HB9.out trivial); clear ho10 hk10))
  have e10 : xs ++ [x.index, x.term].flatMap encZg ++ encConf x.V x.L ++ encText (strOfB x.data) = xs ++ encSnap x := by simp [encSnap, List.append_assoc]
  have ho : w10.ownsRow w.heap.size 5 1 v10 (xs ++ encSnap x).length (u8s (xs ++ encSnap x)) := by
    have h1 := World.ownsRow.mono (base' := w.heap.size) HO10.out HK9.out.size
    rwa [e10] at h1
  obtain ⟨A9, c9', rfl⟩ := own_shape ho
  obtain ⟨m, hm⟩ : ∃ m, (xs ++ encSnap x).length = m := ⟨_, rfl⟩
  have HO := hid ho; have HM := hid hm
  rw [hm]
  clear ho hm HO10 e10
  go_wp2_with fail
  go_ret
  exact ⟨⟨_, rfl, by have := HO.out; rwa [HM.out] at this ⊢⟩, HK10.out⟩
set_option maxRecDepth 100000 in
theorem rsnapbytes_any (x : Sn) (VA LA DA : Option Addr) (vn vc ln lc dn dc : Nat) (hlen : 9 * (vn + ln) + dn ≤ 140737487000000) (w : World) (hs : Snp x VA LA DA vn vc ln lc dn dc w) :
    Calls Tryz.prog 34 #[.agg #[.int .i64 x.index, .int .i64 x.term, .slice VA vn vc, .slice LA ln lc, .slice DA dn dc]] w (OutB w (encSnap x)) := by
  have HS := hid hs
  have c7 := blk_cell (blk_new w (Obj.cells #[.int .i64 x.index, .int .i64 x.term, .slice VA vn vc, .slice LA ln lc, .slice DA dn dc] 27))
  clear hs
  go_enter Tryz.func34, Tryz.ntmps34
  go_wp2_with fail
  refine (rsnap_any (.slice none 0 0) [] x VA LA DA vn vc ln lc dn dc (by simp; omega) _ (rb_nilf _) (HS.out.step (Kp.al _ _))).mono ?_
  rintro e w2 ⟨⟨v2, rfl, ho2⟩, hk2⟩
  rw [List.nil_append] at ho2
  obtain ⟨A2, c2, rfl⟩ := own_shape ho2
  obtain ⟨m, hm⟩ : ∃ m, (encSnap x).length = m := ⟨_, rfl⟩
  have HO2 := hid (World.ownsRow.mono (base' := w.heap.size) ho2 (by simp)); have HK2 := hid ((Kp.al w _).trans hk2); have HM := hid hm
  rw [hm]
  clear ho2 hk2 hm
  go_wp2_with fail
  go_ret
  exact ⟨⟨_, rfl, by have := HO2.out; rwa [HM.out] at this ⊢⟩, HK2.out⟩
end Go.Proofs.YtbkhademplgicaaGreatDoor

namespace Go.Proofs.YtbkhademplgicaaGreatDoor
open Go.RowKit
set_option linter.unusedVariables false
set_option linter.unusedSimpArgs false
theorem own_one (w : World) (x : Value) (e : TypeId) : (w.alloc (.cells #[x] e)).ownsRow w.heap.size e 1 (.slice (some ⟨w.heap.size, 0, none⟩) 1 1) 1 [x] :=
  ⟨rfl, .inr ⟨w.heap.size, 1, #[x], rfl, Nat.le_refl _, World.alloc_heap_new w _, Nat.le_refl _, by decide, rfl, rfl⟩⟩
set_option maxRecDepth 100000 in
set_option maxHeartbeats 2000000 in
theorem rframe_any (A : Option Addr) (n c : Nat) (xs : By) (hn : xs.length = n) (hl : n ≤ 1048576) (w : World) (h : Foot All (Sl A n c 1 (u8s xs)) w) :
    Calls Tryz.prog 38 #[.slice A n c] w (OutB w (frameB xs)) := by
  have d1 : decide (1048576 < (n : Int)) = false := decide_eq_false (by omega)
  have hnm : IntKind.u64.wrap (n : Int) = (n : Int) := by rw [wrap64u]; omega
  have ho0 : (w.alloc (.cells #[.int .u8 197] 5)).ownsRow w.heap.size 5 1 (.slice (some ⟨w.heap.size, 0, none⟩) 1 1) 1 (u8s [197]) := own_one w _ _
  have k0 := Kp.al w (.cells #[.int .u8 197] 5)
  have H := hid h; have HN := hid hn; have HO0 := hid ho0; have K0 := hid k0
  have HLW := hid (rlow_any n 3 (by omega) (by omega) (w.alloc (.cells #[.int .u8 197] 5)))
  clear h hn ho0 k0
  go_enter Tryz.func38, Tryz.ntmps38
  go_wp2_with fail
  refine HLW.out.mono ?_
  rintro e w2 ⟨⟨v2, rfl, ho2⟩, hk2⟩
  rw [le_len] at ho2
  obtain ⟨A2, c2, rfl⟩ := own_shape ho2
  have HO1 := hid (own_kept HO0.out hk2 (fun _ _ => trivial)); have HF2 := hid (own_footA ho2); have HK2 := hid (K0.out.trans hk2)
  clear ho2 hk2
  go_wp2_with (first | (at_builtin; have h := HO4.out; clear h; fail) | (at_builtin; have h := HO3.out; clear h; refine wpList_app el8 HO3.out (H.out.step HK3.out).now (u8s_one _) ?_ HK3.out.size rfl _ _ rfl rfl rfl ?_; omega; intro v' w4 hown4 hg4 hob4 hnil4; obtain ⟨A4, c4, rfl⟩ := own_shape hown4; have HO4 := hid hown4; have HK4 := hid (HK3.out.then (Kp.grown hg4) (fun i hi _ e => by have := (HO3.out.lt i e.symm).1; omega)); clear hown4 hg4 hob4 hnil4) | (at_builtin; refine wpList_app el8 HO1.out HF2.out.now (u8s_one _) ?_ HK2.out.size rfl _ _ rfl rfl rfl ?_; omega; intro v' w3 hown3 hg3 hob3 hnil3; obtain ⟨A3, c3, rfl⟩ := own_shape hown3; have HO3 := hid hown3; have HK3 := hid (HK2.out.then (Kp.grown hg3) (fun i hi _ e => by have := (HO1.out.lt i e.symm).1; omega)); clear hown3 hg3 hob3 hnil3))
  have e4 : u8s [197] ++ u8s (le xs.length 3) ++ u8s xs = u8s (frHead xs) := by
    rw [← u8s_append, ← u8s_append]; rfl
  have ho4 := HO4.out
  rw [HN.out] at e4
  rw [e4, show 1 + 3 + n = 4 + n by omega] at ho4
  have hfl : (frHead xs).length = 4 + n := by rw [frHead_len, HN.out]; omega
  have hcl := crcB_lt (frHead xs)
  have HF4 := hid (own_footA ho4); have HO5 := hid ho4; have HFL := hid hfl
  have HSM := hid (rsum_any A4 (4 + n) c4 (frHead xs) hfl (by omega) w4 (own_footA ho4).now)
  obtain ⟨cr, hcr⟩ : ∃ cr, crcB (frHead xs) = cr := ⟨_, rfl⟩
  rw [hcr] at HSM hcl
  have HCR := hid hcr
  have hcm : IntKind.u64.wrap (cr : Int) = (cr : Int) := by rw [wrap64u]; omega
  have HLW2 := hid (rlow_any cr 4 (by omega) (by omega) w4)
  clear ho4 e4 hfl hcr HO4 HO3 HO1 HO0
  refine HSM.out.mono ?_
  rintro e w5 ⟨rfl, rfl⟩
  go_wp2_with fail
  refine HLW2.out.mono ?_
  rintro e w6 ⟨⟨v6, rfl, ho6⟩, hk6⟩
  rw [le_len] at ho6
  obtain ⟨A6, c6, rfl⟩ := own_shape ho6
  have HF6 := hid (own_footA ho6); have HO7 := hid (own_kept HO5.out hk6 (fun _ _ => trivial)); have HK6 := hid (HK4.out.trans hk6)
  clear ho6 hk6
  go_wp2_with (at_builtin; refine wpList_app el8 HO7.out HF6.out.now (u8s_one _) ?_ HK6.out.size rfl _ _ rfl rfl rfl ?_; omega; intro v' w8 hown8 hg8 hob8 hnil8; obtain ⟨A8, c8, rfl⟩ := own_shape hown8; have HO8 := hid hown8; have HK8 := hid (HK6.out.then (Kp.grown hg8) (fun i hi _ e => by have := (HO7.out.lt i e.symm).1; omega)); clear hown8 hg8 hob8 hnil8)
  go_ret
  have e8 : u8s (frHead xs) ++ u8s (le cr 4) = u8s (frameB xs) := by rw [← u8s_append, frameB, HCR.out]
  have ho8 := HO8.out
  rw [e8] at ho8
  have hfr : (frameB xs).length = 4 + n + 4 := by rw [frameB_len, HN.out]; omega
  exact ⟨⟨_, rfl, by rw [hfr]; exact ho8⟩, HK8.out⟩
end Go.Proofs.YtbkhademplgicaaGreatDoor

namespace Go.Proofs.YtbkhademplgicaaGreatDoor
open Go.RowKit
set_option linter.unusedVariables false
set_option linter.unusedSimpArgs false
set_option maxRecDepth 100000 in
set_option maxHeartbeats 2000000 in
theorem runframe_any (A : Option Addr) (n c : Nat) (xs : By) (hn : xs.length = n) (hl : n ≤ 1000000000000) (w : World) (h : Foot All (Sl A n c 1 (u8s xs)) w) :
    Calls Tryz.prog 43 #[.slice A n c] w (Unf w xs) := by
  have H := hid h; have HN := hid hn
  clear h hn
  by_cases h0 : n = 0
  · have d0 : ((n : Int) == 0) = true := by simp [h0]
    go_enter Tryz.func43, Tryz.ntmps43
    go_wp2_with fail
    refine bodyPost_ret (v := .tuple #[.slice none 0 0, .int .i64 0, .int .i64 10]) (by simp [results, Tryz.results43, go_sem]) rfl (Unf.none ?_)
    rw [unfP, if_pos (by rw [HN.out]; exact h0)]
  have d0 : ((n : Int) == 0) = false := by simp [h0]
  obtain ⟨x0, hx0⟩ : ∃ x, xs[0]? = some x := ⟨_, List.getElem?_eq_getElem (by rw [HN.out]; omega)⟩
  obtain ⟨b, o, rfl, hc0⟩ := sl_u8 H.out.now hx0
  rw [Nat.add_zero] at hc0
  have HX0 := hid hx0
  have i0 : (0 : Int) < (n : Int) := by omega
  have hg0 : xs.getD 0 0 = x0 := by rw [List.getD_eq_getElem?_getD, hx0]; rfl
  have HG0 := hid hg0
  clear hx0 hg0
  by_cases h1 : x0 = 197
  case neg =>
    have d1 : (((x0.toNat : Nat) : Int) != 197) = true := by
      simp only [bne_iff_ne, ne_eq]
      intro e
      exact h1 (UInt8.toNat_inj.1 (by have : x0.toNat = 197 := by omega
                                      rw [this]; rfl))
    have H1 := hid h1
    clear h1
    go_enter Tryz.func43, Tryz.ntmps43
    go_wp2_with fail
    refine bodyPost_ret (v := .tuple #[.slice none 0 0, .int .i64 0, .int .i64 8]) (by simp [results, Tryz.results43, go_sem]) rfl (Unf.none ?_)
    rw [unfP, if_neg (by rw [HN.out]; exact h0), if_pos (by rw [HG0.out]; exact H1.out)]
  have d1 : (((x0.toNat : Nat) : Int) != 197) = false := by subst h1; rfl
  have H1 := hid h1
  clear h1
  by_cases h4 : n < 4
  · have d4 : decide ((n : Int) < 4) = true := decide_eq_true (by omega)
    go_enter Tryz.func43, Tryz.ntmps43
    go_wp2_with fail
    refine bodyPost_ret (v := .tuple #[.slice none 0 0, .int .i64 0, .int .i64 10]) (by simp [results, Tryz.results43, go_sem]) rfl (Unf.none ?_)
    rw [unfP, if_neg (by rw [HN.out]; exact h0), if_neg (by rw [HG0.out, H1.out]; simp), if_pos (by rw [HN.out]; exact h4)]
  have d4 : decide ((n : Int) < 4) = false := decide_eq_false (by omega)
  have hnc := H.out.now.2.1
  have j1 : (4 : Int) ≤ (c : Int) := by omega
  have hw3 := (sl_sub (lo := 1) (k := 3) HN.out H.out.now (by omega))
  obtain ⟨m, hm⟩ : ∃ m, of ((xs.drop 1).take 3) = m := ⟨_, rfl⟩
  have hm3 : m < 16777216 := by
    have := of_lt ((xs.drop 1).take 3)
    rw [hm] at this
    have hl3 : ((xs.drop 1).take 3).length = 3 := by rw [List.length_take, List.length_drop, HN.out]; omega
    rw [hl3] at this
    omega
  have HM := hid hm; have HW3 := hid hw3
  clear hm hw3
  go_enter Tryz.func43, Tryz.ntmps43
  go_wp2_with fail
  have hl3 : ((xs.drop 1).take 3).length = 3 := by rw [List.length_take, List.length_drop, HN.out]; omega
  refine (rof_any (some ⟨b, o + 1, none⟩) 3 (c - 1) ((xs.drop 1).take 3) hl3 (by omega) w HW3.out).mono ?_
  rintro e w1 ⟨rfl, rfl⟩
  rw [HM.out]
  clear hl3
  have hu0 : unfP xs = if 1048576 < m then ([], 0, 6) else if xs.length < m + 8 then ([], 0, 10) else if crcB (xs.take (m + 4)) ≠ of ((xs.drop (m + 4)).take 4) then ([], 0, 8) else ((xs.drop 4).take m, m + 8, 0) := by
    rw [unfP, if_neg (by rw [HN.out]; exact h0), if_neg (by rw [HG0.out, H1.out]; simp), if_neg (by rw [HN.out]; exact h4), HM.out]
  have HU := hid hu0
  clear hu0
  by_cases h5 : 1048576 < m
  · have d5 : decide (1048576 < (m : Int)) = true := decide_eq_true (by omega)
    go_wp2_with fail
    refine bodyPost_ret (v := .tuple #[.slice none 0 0, .int .i64 0, .int .i64 6]) (by simp [results, Tryz.results43, go_sem]) rfl (Unf.none ?_)
    rw [HU.out, if_pos h5]
  have d5 : decide (1048576 < (m : Int)) = false := decide_eq_false (by omega)
  by_cases h6 : n < m + 8
  · have d6 : decide ((n : Int) - 8 < (m : Int)) = true := decide_eq_true (by omega)
    go_wp2_with fail
    refine bodyPost_ret (v := .tuple #[.slice none 0 0, .int .i64 0, .int .i64 10]) (by simp [results, Tryz.results43, go_sem]) rfl (Unf.none ?_)
    rw [HU.out, if_neg h5, if_pos (by rw [HN.out]; exact h6)]
  have d6 : decide ((n : Int) - 8 < (m : Int)) = false := decide_eq_false (by omega)
  have hs0 : Sl (some ⟨b, o, none⟩) (m + 4) c 1 (u8s (xs.take (m + 4))) w := by
    have := sl_sub (lo := 0) (k := m + 4) HN.out H.out.now (by omega)
    simpa using this
  have hs4 := sl_sub (lo := m + 4) (k := 4) HN.out H.out.now (by omega)
  have hla : (xs.take (m + 4)).length = m + 4 := by rw [List.length_take, HN.out]; omega
  have hlb : ((xs.drop (m + 4)).take 4).length = 4 := by rw [List.length_take, List.length_drop, HN.out]; omega
  have HS0 := hid hs0; have HS4 := hid hs4; have HLA := hid hla; have HLB := hid hlb
  obtain ⟨cr, hcr⟩ : ∃ cr, crcB (xs.take (m + 4)) = cr := ⟨_, rfl⟩
  have hcl : cr < 2 ^ 32 := by rw [← hcr]; exact crcB_lt _
  have ecw : IntKind.u64.wrap (cr : Int) = (cr : Int) := by rw [wrap64u]; omega
  obtain ⟨ws, hws⟩ : ∃ ws, of ((xs.drop (m + 4)).take 4) = ws := ⟨_, rfl⟩
  have HCR := hid hcr; have HWS := hid hws
  have e1 : IntKind.i64.wrap (8 + (m : Int)) = ((m + 8 : Nat) : Int) := by rw [IntWalk.i64_in _ (by omega)]; omega
  have e2 : IntKind.i64.wrap (4 + (m : Int)) = ((m + 4 : Nat) : Int) := by rw [IntWalk.i64_in _ (by omega)]; omega
  have k1 : (0 : Int) ≤ ((m + 4 : Nat) : Int) := by omega
  have k2 : ((m + 4 : Nat) : Int) ≤ (c : Int) := by omega
  have k3 : ((m + 4 : Nat) : Int) ≤ ((m + 8 : Nat) : Int) := by omega
  have k4 : ((m + 8 : Nat) : Int) ≤ (c : Int) := by omega
  clear hs0 hs4 hla hlb hcr hws
  by_cases h7 : cr = ws
  case neg =>
    have d7 : (((cr : Nat) : Int) != ((ws : Nat) : Int)) = true := by
      simp only [bne_iff_ne, ne_eq]; omega
    have d8 : (IntKind.u64.wrap (cr : Int) != ((ws : Nat) : Int)) = true := by rw [ecw]; exact d7
    have H7 := hid h7
    clear h7 ecw
    go_wp2_with fail
    refine wp_region_quiet_lit (by kernel_rfl) (by kernel_rfl) ?_
    go_big_quiet_step (fail)
    go_big_quiet_step (fail)
    go_big_quiet_step (fail)
    go_big_quiet_step (fail)
    go_big_quiet_step ((go_at_call 37; refine (rsum_any (some ⟨b, o, none⟩) (m + 4) c (xs.take (m + 4)) HLA.out (by omega) _ (by exact HS0.out)).mono ?_; rw [HCR.out]; rintro e w' ⟨rfl, rfl⟩; exact ⟨rfl, _, rfl⟩))
    go_big_quiet_step (fail)
    go_big_quiet_step (fail)
    go_big_quiet_step (fail)
    go_big_quiet_step (fail)
    go_big_quiet_step (fail)
    go_big_quiet_step (fail)
    go_big_quiet_step (fail)
    go_big_quiet_step ((go_at_call 88; refine (rof_any (some ⟨b, o + (m + 4), none⟩) 4 (c - (m + 4)) ((xs.drop (m + 4)).take 4) HLB.out (by omega) _ (by exact HS4.out)).mono ?_; rw [HWS.out]; rintro e w' ⟨rfl, rfl⟩; exact ⟨rfl, _, rfl⟩))
    repeat (go_big_quiet_step (fail))
    refine wpQuiet_nil ?_
    intro _ hw'
    obtain ⟨nq, hw''⟩ := hw'
    subst hw''
    go_wp2_with fail
    refine bodyPost_ret (v := .tuple #[.slice none 0 0, .int .i64 0, .int .i64 8]) (by simp [results, Tryz.results43, go_sem]) rfl ⟨.slice none 0 0, ?_, ?_, (Kp.refl All w).drewN _⟩
    · rw [HU.out, if_neg h5, if_neg (by rw [HN.out]; exact h6), if_pos (by rw [HCR.out, HWS.out]; exact H7.out)]; rfl
    · rw [HU.out, if_neg h5, if_neg (by rw [HN.out]; exact h6), if_pos (by rw [HCR.out, HWS.out]; exact H7.out)]; exact World.ownsRow_nil _ _ _ _
  have d7 : (((cr : Nat) : Int) != ((ws : Nat) : Int)) = false := by rw [h7]; simp
  have d8 : (IntKind.u64.wrap (cr : Int) != ((ws : Nat) : Int)) = false := by rw [ecw]; exact d7
  have HU9 := hid (show unfP xs = ((xs.drop 4).take m, m + 8, 0) by
    rw [HU.out, if_neg h5, if_neg (by rw [HN.out]; exact h6), if_neg (by rw [HCR.out, HWS.out]; simpa using h7)])
  have hsm := sl_sub (lo := 4) (k := m) HN.out H.out.now (by omega)
  have HSM := hid hsm
  have hml : ((xs.drop 4).take m).length = m := by rw [List.length_take, List.length_drop, HN.out]; omega
  have HML := hid hml
  have k7 : (4 : Int) ≤ ((m + 4 : Nat) : Int) := by omega
  clear h7 hsm hml ecw
  go_wp2_with fail
  refine wp_region_quiet_lit (by kernel_rfl) (by kernel_rfl) ?_
  go_big_quiet_step (fail)
  go_big_quiet_step (fail)
  go_big_quiet_step (fail)
  go_big_quiet_step (fail)
  go_big_quiet_step ((go_at_call 37; refine (rsum_any (some ⟨b, o, none⟩) (m + 4) c (xs.take (m + 4)) HLA.out (by omega) _ (by exact HS0.out)).mono ?_; rw [HCR.out]; rintro e w' ⟨rfl, rfl⟩; exact ⟨rfl, _, rfl⟩))
  go_big_quiet_step (fail)
  go_big_quiet_step (fail)
  go_big_quiet_step (fail)
  go_big_quiet_step (fail)
  go_big_quiet_step (fail)
  go_big_quiet_step (fail)
  go_big_quiet_step (fail)
  go_big_quiet_step ((go_at_call 88; refine (rof_any (some ⟨b, o + (m + 4), none⟩) 4 (c - (m + 4)) ((xs.drop (m + 4)).take 4) HLB.out (by omega) _ (by exact HS4.out)).mono ?_; rw [HWS.out]; rintro e w' ⟨rfl, rfl⟩; exact ⟨rfl, _, rfl⟩))
  repeat (go_big_quiet_step (fail))
  refine wpQuiet_nil ?_
  intro _ hw'
  obtain ⟨nq, hw''⟩ := hw'
  subst hw''
  obtain ⟨W, hW⟩ : ∃ W, W = w.drewN nq := ⟨_, rfl⟩
  have kW : Kp All w W := by rw [hW]; exact (Kp.refl All w).drewN _
  rw [← hW]
  have HSM2 := hid (fun u (k : Kp All W u) => sl_sub (lo := 4) (k := m) HN.out (H.out u (kW.trans k)) (by omega))
  have HKW := hid kW
  clear hW kW
  go_wp2_with (at_builtin; refine wpList_app el8 (own_build0 (base := w.heap.size) HKW.out.size) (HSM2.out _ (Kp.al _ _)) (u8s_one _) ?_ (Nat.le_trans HKW.out.size (by simp)) rfl _ _ rfl rfl rfl ?_; omega; intro v' w2 hown2 hg2 hob2 hnil2; obtain ⟨A2, c2', rfl⟩ := own_shape hown2; have HOW := hid hown2; have HG2 := hid hg2; clear hown2 hg2 hob2 hnil2)
  have hrow := HOW.out
  rw [List.nil_append, Nat.zero_add] at hrow
  refine bodyPost_ret (v := .tuple #[.slice A2 m c2', .int .i64 ((m : Int) + 8), .int .i64 0]) (by simp [results, Tryz.results43, go_sem]) rfl ⟨.slice A2 m c2', ?_, ?_, ?_⟩
  · rw [HU9.out]; rfl
  · rw [HU9.out]
    dsimp only
    rw [HML.out]
    exact hrow
  · exact (HKW.out.alloc _).then (Kp.grown HG2.out) (fun i hi _ e => by simp [Value.ownBlock] at e; have := HKW.out.size; omega)
end Go.Proofs.YtbkhademplgicaaGreatDoor

namespace Go.Proofs.YtbkhademplgicaaGreatDoor
open Go.RowKit
set_option linter.unusedVariables false
set_option linter.unusedSimpArgs false
theorem elbsP : El Tryz.prog 32 25 1 24 (.slice none 0 0) := ⟨Tryz.underlying32, by kernel_rfl, rfl, by decide, by decide⟩
theorem hdr_one (A : Option Addr) (n c : Nat) : ∀ u ∈ [Value.slice A n c], u.oneCell' = true := by
  intro u hu
  rw [List.mem_singleton.1 hu]; rfl
theorem FrB.keepA {base : Nat} {hs : List Hd} {ls : List By} {w w' : World} (h : FrB base hs ls w) (k : Kp All w w') : FrB base hs ls w' := ⟨h.1, fun i y l a b => own_kept (h.2 i y l a b) k (fun _ _ => trivial)⟩
/-- The loop's state. -/
structure CkSt (x : Sn) (W : World) (base : Nat) (R : By) (A : Option Addr) (n5 c5 f : Nat) (hs : List Hd) (ls : List By) (v : Value) (wr : World) : Prop where
  rl : R.length = n5
  r : Foot All (Sl A n5 c5 1 (u8s R)) W
  o : wr.ownsRow base 25 1 v hs.length (hs.map hdV)
  fr : FrB base hs ls wr
  k : Kp All W wr
  fu : n5 ≤ f
  e : ls ++ (parts4 f R).map frameB = chunksB x
theorem FrB.snoc {base : Nat} {hs : List Hd} {ls : List By} {w w' : World} {v : Value} {y : Hd} {l : By} (h : FrB base hs ls w) (hv : ∀ g, v.ownBlock = some g → ∃ cs fz, w.heap[g]? = some (.cells cs 25 fz)) (k : Kp (fun i => some i ≠ v.ownBlock) w w') (hy : w'.ownsRow base 5 1 (hdV y) l.length (u8s l)) : FrB base (hs ++ [y]) (ls ++ [l]) w' := by
  refine ⟨by rw [List.length_append, List.length_append, h.1]; rfl, fun i z m hz hm => ?_⟩
  by_cases hi : i < hs.length
  · rw [List.getElem?_append_left hi] at hz
    rw [List.getElem?_append_left (by rw [← h.1]; exact hi)] at hm
    have h1 := h.2 i z m hz hm
    refine own_kept h1 k (fun b hb e => ?_)
    obtain ⟨cs, fz, hg⟩ := hv b e.symm
    exact own_ne h1 hg (by decide) b hb rfl
  · have hie : i = hs.length := by
      have := (List.getElem?_eq_some_iff.1 hz).1
      rw [List.length_append, List.length_singleton] at this
      omega
    rw [hie, List.getElem?_append_right (Nat.le_refl _), Nat.sub_self] at hz
    rw [hie, h.1, List.getElem?_append_right (Nat.le_refl _), Nat.sub_self] at hm
    injection hz with hz
    injection hm with hm
    subst hz hm
    exact hy
set_option maxRecDepth 100000 in
set_option maxHeartbeats 2000000 in
theorem rchunks_any (x : Sn) (VA LA DA : Option Addr) (vn vc ln lc dn dc : Nat) (hlen : 9 * (vn + ln) + dn ≤ 1500000) (w : World) (hs : Snp x VA LA DA vn vc ln lc dn dc w) :
    Calls Tryz.prog 10 #[.agg #[.int .i64 x.index, .int .i64 x.term, .slice VA vn vc, .slice LA ln lc, .slice DA dn dc]] w (ChP w x) := by
  have kb := Kp.al w (.cells #[.int .i64 x.index, .int .i64 x.term, .slice VA vn vc, .slice LA ln lc, .slice DA dn dc] 27)
  have b1 := blk_new w (.cells #[.int .i64 x.index, .int .i64 x.term, .slice VA vn vc, .slice LA ln lc, .slice DA dn dc] 27)
  obtain ⟨W, hW⟩ : ∃ W, W = w.alloc (.cells #[.int .i64 x.index, .int .i64 x.term, .slice VA vn vc, .slice LA ln lc, .slice DA dn dc] 27) := ⟨_, rfl⟩
  rw [← hW] at kb b1
  have HW := hid hW; have KB := hid kb; have B1 := hid b1; have HS := hid (hs.step kb)
  have c1 := blk_cell b1
  have HIA := hid (Snp.mk hs.cf hs.d hs.dn hs.i hs.t)
  have HG := hid (rgoodsnap_any x VA LA DA vn vc ln lc dn dc (by omega) (by omega) W (hs.step kb))
  clear hW kb b1 hs
  cases hgo : goodSnap x with
  | false =>
    rw [hgo] at HG
    have HP := hid (show ChP w x = fun e w' => e = .returned (.slice none 0 0) ∧ Kp All w w' by funext e w'; unfold ChP; rw [if_neg (by simp [hgo])])
    rw [HP.out]
    clear hgo
    go_enter Tryz.func10, Tryz.ntmps10
    go_wp2_with fail
    rw [← HW.out]
    refine HG.out.mono ?_
    rintro e w1 ⟨rfl, hk1⟩
    have HK1 := hid (KB.out.trans hk1)
    clear hk1
    go_wp2_with fail
    go_ret
    exact ⟨rfl, HK1.out⟩
  | true =>
  rw [hgo] at HG
  have HP := hid (show ChP w x = ColP w (chunksB x) by funext e w'; unfold ChP; rw [if_pos hgo])
  rw [HP.out]
  have HGO := hid hgo
  clear hgo
  go_enter Tryz.func10, Tryz.ntmps10
  go_wp2_with fail
  rw [← HW.out]
  refine HG.out.mono ?_
  rintro e w1 ⟨rfl, hk1⟩
  have HK1 := hid hk1
  have HB1 := hid (hk1.heap B1.out trivial)
  have d1 := blk_cell HB1.out
  clear hk1
  go_wp2_with fail
  refine (rsnapbytes_any x VA LA DA vn vc ln lc dn dc (by omega) w1 (HS.out.step HK1.out)).mono ?_
  rintro e w2 ⟨⟨v2, rfl, ho2⟩, hk2⟩
  obtain ⟨A2, c2, rfl⟩ := own_shape ho2
  obtain ⟨M, hM⟩ : ∃ M, (encSnap x).length = M := ⟨_, rfl⟩
  have HM := hid hM
  have hml := encSnap_len HGO.out
  rw [hM] at ho2 hml ⊢
  have HK2 := hid (HK1.out.trans hk2); have HF2 := hid (own_footA ho2)
  have HB2 := hid (HK2.out.heap B1.out trivial)
  have d2 := blk_cell HB2.out
  clear hk2 ho2 hM d1
  go_wp2_with fail
  refine (rzig_any x.index HIA.out.i.1 HIA.out.i.2 _).mono ?_
  rintro e w3 ⟨rfl, rfl⟩
  go_wp2_with fail
  refine (rput_any (.slice none 0 0) [] (zig x.index) (zig_lt _ HIA.out.i.1 HIA.out.i.2) (by simp) _ (rb_nilf _).now).mono ?_
  rintro e w3 ⟨⟨v3, rfl, ho3⟩, hk3⟩
  rw [List.nil_append] at ho3
  have l3 := enc_len_le (zig x.index); have l4 := enc_len_le (zig x.term); have l5 := enc_len_le M
  have hmw : IntKind.u64.wrap (M : Int) = (M : Int) := by rw [wrap64u]; omega
  obtain ⟨cr, hcr⟩ : ∃ cr, crcB (encSnap x) = cr := ⟨_, rfl⟩
  have hcl : cr < 2 ^ 32 := by rw [← hcr]; exact crcB_lt _
  have ecw : IntKind.u64.wrap (cr : Int) = (cr : Int) := by rw [wrap64u]; omega
  have HCR := hid hcr; have HCL := hid hcl
  have HO3 := hid ho3; have HK3 := hid (HK2.out.trans hk3); have HK23 := hid hk3
  have d3 := blk_cell (HK3.out.heap B1.out trivial)
  clear ho3 hk3 d2 hcr hcl
  go_wp2_with fail
  refine (rzig_any x.term HIA.out.t.1 HIA.out.t.2 _).mono ?_
  rintro e w4 ⟨rfl, rfl⟩
  go_wp2_with fail
  refine (rput_any v3 (enc (zig x.index)) (zig x.term) (zig_lt _ HIA.out.t.1 HIA.out.t.2) (by omega) _ (own_rb HO3.out)).mono ?_
  rintro e w4 ⟨⟨v4, rfl, ho4⟩, hk4⟩
  have hl4 : (enc (zig x.index) ++ enc (zig x.term)).length ≤ 18 := by rw [List.length_append]; omega
  have HO4 := hid ho4; have HK4 := hid (HK3.out.trans hk4); have HK25 := hid (HK23.out.trans hk4); have HL4 := hid hl4
  clear ho4 hk4 d3 hl4
  go_wp2_with fail
  refine (rput_any v4 (enc (zig x.index) ++ enc (zig x.term)) M (by omega) (by have := HL4.out; omega) _ (own_rb HO4.out)).mono ?_
  rintro e w5 ⟨⟨v5, rfl, ho5⟩, hk5⟩
  have hl5 : (enc (zig x.index) ++ enc (zig x.term) ++ enc M).length ≤ 27 := by rw [List.length_append]; have := HL4.out; omega
  have HO5 := hid ho5; have HK5 := hid (HK4.out.trans hk5); have HL5 := hid hl5
  have k25 := hid (show Kp All w2 w5 from HK25.out.trans hk5)
  clear ho5 hk5 hl5
  go_wp2_with fail
  refine (rsum_any A2 M c2 (encSnap x) HM.out (by omega) w5 (HF2.out.step k25.out).now).mono ?_
  rw [HCR.out]
  rintro e w6 ⟨rfl, rfl⟩
  go_wp2_with fail
  refine (rput_any v5 (enc (zig x.index) ++ enc (zig x.term) ++ enc M) cr (by have := HCL.out; omega) (by have := HL5.out; omega) _ (own_rb HO5.out)).mono ?_
  rintro e w6 ⟨⟨v6, rfl, ho6⟩, hk6⟩
  have eh : enc (zig x.index) ++ enc (zig x.term) ++ enc M ++ enc cr = headB x := by rw [headB, HM.out, HCR.out]; simp [encZg, List.append_assoc]
  rw [eh] at ho6
  obtain ⟨A6, c6, rfl⟩ := own_shape ho6
  obtain ⟨hl, hhl⟩ : ∃ hl, (headB x).length = hl := ⟨_, rfl⟩
  have hh36 := headB_len x
  rw [hhl] at ho6 hh36 ⊢
  have HHL := hid hhl
  have HF6 := hid (own_footA ho6); have k26 := hid (k25.out.trans hk6)
  clear ho6 hk6 eh hhl
  go_wp2_with fail
  refine (rframe_any A6 hl c6 (headB x) HHL.out (by omega) w6 HF6.out).mono ?_
  rintro e w7 ⟨⟨v7, rfl, ho7⟩, hk7⟩
  obtain ⟨A7, c7, rfl⟩ := own_shape ho7
  have k27 := hid (k26.out.trans hk7)
  obtain ⟨fl, hfl⟩ : ∃ fl, (frameB (headB x)).length = fl := ⟨_, rfl⟩
  have HFL := hid hfl
  rw [hfl] at ho7 ⊢
  have ho8 := own_one w7 (.slice A7 fl c7) 25
  have k8 := Kp.al w7 (.cells #[.slice A7 fl c7] 25)
  have HO7 := hid (own_kept ho7 k8 (fun _ _ => trivial)); have HO8 := hid ho8; have K28 := hid (k27.out.trans k8)
  have HS7 := hid (hk7.size)
  clear ho7 hk7 hfl ho8 k8
  go_wp2_with fail
  go_loopw [3, 5, 6] (fun r v _ wr => ∃ A5 n5 c5 R f hs ls, r = .slice A5 n5 c5 ∧ Hid (CkSt x w2 w2.heap.size R A5 n5 c5 f hs ls v wr)) (fun r _ _ _ => (match r with | .slice _ k _ => k | _ => 0))
  case atStart =>
    have hzs : w2.heap.size ≤ w6.heap.size := k26.out.size
    refine ⟨A2, M, c2, encSnap x, M, [(A7, fl, c7)], [frameB (headB x)], rfl, hid ⟨HM.out, HF2.out, World.ownsRow.mono HO8.out (by have := HS7.out; omega), ⟨rfl, ?_⟩, K28.out, Nat.le_refl _, ?_⟩⟩
    · intro i z m hz hm
      cases i with
      | zero =>
        injection hz with hz
        injection hm with hm
        subst hz hm
        rw [HFL.out]
        exact World.ownsRow.mono HO7.out hzs
      | succ i => cases hz
    · rw [chunksB, partsB, HM.out]; rfl
  case round =>
    obtain ⟨A5, n5, c5, R, f, hs, ls, rfl, hJ⟩ := hrel
    by_cases h0 : n5 = 0
    · have d0 : decide ((0 : Int) < (n5 : Int)) = false := decide_eq_false (by omega)
      go_wp2_with fail
      go_ret
      have hJ5 := hJ.out
      have e0 : (parts4 f R) = [] := by
        have h1 := hJ5.rl
        cases f with
        | zero => rfl
        | succ f => rw [parts4, if_pos (by omega)]
      have e1 := hJ5.e
      rw [e0] at e1
      simp only [List.map_nil, List.append_nil] at e1
      have hz2 := (KB.out.trans HK2.out).size
      exact ⟨_, hs, rfl, World.ownsRow.mono hJ5.o hz2, by rw [← e1]; exact hJ5.fr.mono hz2, KB.out.trans (HK2.out.trans hJ5.k)⟩
    · have d0 : decide ((0 : Int) < (n5 : Int)) = true := decide_eq_true (by omega)
      have hJ5 := hJ.out
      obtain ⟨b5, o5, rfl, hrd⟩ := hJ5.r.now.2.2 (by omega)
      have hnc := hJ5.r.now.2.1
      obtain ⟨g, rfl⟩ : ∃ g, f = g + 1 := ⟨f - 1, by have := hJ5.fu; omega⟩
      clear hrd
      have hqs : hs.length ≤ 1000 := by
        have h1 := congrArg List.length hJ5.e
        rw [List.length_append, List.length_map, ← hJ5.fr.1, chunksB, List.length_cons, List.length_map, partsB_range, List.length_map, List.length_range, HM.out] at h1
        omega
      by_cases h4 : n5 < 4096
      · have d1 : decide ((n5 : Int) < 4096) = true := decide_eq_true (by omega)
        have d2 : decide ((n5 : Int) ≤ (c5 : Int)) = true := decide_eq_true (by omega)
        have i0 : (0 : Int) ≤ (n5 : Int) := by omega
        have i1 : (n5 : Int) ≤ (c5 : Int) := by omega
        have hln : (R.take n5).length = n5 := by rw [List.length_take, hJ5.rl]; omega
        have hfo : Foot All (Sl (some ⟨b5, o5, none⟩) n5 c5 1 (u8s (R.take n5))) w2 := fun u hu => by
          have h1 := sl_sub (lo := 0) (k := n5) hJ5.rl (hJ5.r u hu) (by omega)
          simpa using h1
        have hfd : Foot All (Sl (if c5 = n5 then some ⟨b5, o5, none⟩ else some ⟨b5, o5 + n5, none⟩) 0 (c5 - n5) 1 (u8s (R.drop n5))) w2 := fun u hu => by
          have h1 := sl_sub (lo := n5) (k := 0) hJ5.rl (hJ5.r u hu) (by omega)
          rw [List.take_of_length_le (by rw [List.length_drop, hJ5.rl]; omega)] at h1
          by_cases hck : c5 = n5
          · exact ⟨h1.1, h1.2.1, fun hp => by omega⟩
          · rw [if_neg hck]; exact h1
        have HE := hid (show ls ++ [frameB (R.take n5)] ++ (parts4 g (R.drop n5)).map frameB = chunksB x by
          rw [← hJ5.e, parts4, if_neg (by rw [hJ5.rl]; exact h0), show R.take n5 = R.take 4096 by rw [List.take_of_length_le (by rw [hJ5.rl]; exact Nat.le_refl _), List.take_of_length_le (by rw [hJ5.rl]; omega)], show R.drop n5 = R.drop 4096 by rw [List.drop_eq_nil_of_le (by rw [hJ5.rl]; exact Nat.le_refl _), List.drop_eq_nil_of_le (by rw [hJ5.rl]; omega)], List.map_cons, List.append_assoc]; rfl)
        have HLN := hid hln; have HFO := hid hfo; have HFD := hid hfd; have HQS := hid hqs
        obtain ⟨A3, c3, rfl⟩ := own_shape hJ5.o
        clear hln hfo hfd hJ5 hqs
        go_wp2_with fail
        refine (rframe_any _ n5 c5 (R.take n5) HLN.out (by omega) wr (HFO.out.step hJ.out.k)).mono ?_
        rintro e w9 ⟨⟨v9, rfl, ho9⟩, hk9⟩
        obtain ⟨A9, c9, rfl⟩ := own_shape ho9
        obtain ⟨f9, hf9⟩ : ∃ f9, (frameB (R.take n5)).length = f9 := ⟨_, rfl⟩
        have HF9 := hid hf9
        rw [hf9] at ho9 ⊢
        have k10 := Kp.al w9 (.cells #[.slice A9 f9 c9] 25)
        have HO9 := hid (own_kept ho9 k10 (fun _ _ => trivial))
        have HO10 := hid (own_kept hJ.out.o (hk9.trans k10) (fun _ _ => trivial))
        have HK10 := hid (hJ.out.k.trans (hk9.trans k10))
        have HFR := hid (hJ.out.fr.keepA (hk9.trans k10))
        have HWR := hid hJ.out.k.size
        clear ho9 hk9 hf9 k10
        go_wp2_with (at_builtin; go_loud (refine wpList_app elbsP HO10.out (sl_new1 _ _ _) (hdr_one _ _ _) ?_ HK10.out.size rfl _ _ rfl rfl rfl ?_); (have := HQS.out; omega); intro v' w11 hown hg hob hnil; have HO11 := hid hown; have HG11 := hid hg; clear hown hg hob hnil)
        have hvb : ∀ g, (Value.slice A3 hs.length c3).ownBlock = some g → ∃ cs fz, (w9.alloc (.cells #[.slice A9 f9 c9] 25)).heap[g]? = some (.cells cs 25 fz) := fun g hg => by
          rcases own_at HO10.out with ⟨e, _⟩ | ⟨g', cap, cur, e, hc, _⟩
          · rw [e] at hg; cases hg
          · rw [e] at hg
            injection hg with hg
            simp only at hg
            exact ⟨cur, (0, 0), by rw [← hg]; exact hc⟩
        have ho9 : w11.ownsRow w2.heap.size 5 1 (hdV (A9, f9, c9)) (frameB (R.take n5)).length (u8s (frameB (R.take n5))) := by
          rw [HF9.out]
          refine World.ownsRow.mono (own_kept HO9.out (Kp.grown HG11.out) (fun b hb e => ?_)) HWR.out
          obtain ⟨cs, fz, hg⟩ := hvb b e.symm
          exact own_ne HO9.out hg (by decide) b hb rfl
        refine ⟨⟨_, _, _, R.drop n5, g, hs ++ [(A9, f9, c9)], ls ++ [frameB (R.take n5)], rfl, hid ⟨?_, HFD.out, ?_, HFR.out.snoc hvb (Kp.grown HG11.out) ho9, ?_, ?_, HE.out⟩⟩, ?_⟩
        · rw [List.length_drop, hJ.out.rl, Nat.sub_self]
        · rw [List.length_append, List.map_append]
          exact HO11.out
        · exact HK10.out.then (Kp.grown HG11.out) (fun i hi _ e => by
            have := (HO10.out.lt i e.symm).1
            omega)
        · have := hJ.out.fu; omega
        · show 0 < n5
          omega
      · have d1 : decide ((n5 : Int) < 4096) = false := decide_eq_false (by omega)
        have i1 : (4096 : Int) ≤ (n5 : Int) := by omega
        have i2 : (n5 : Int) ≤ (c5 : Int) := by omega
        have i3 : (4096 : Int) ≤ (c5 : Int) := by omega
        have hln : (R.take 4096).length = 4096 := by rw [List.length_take, hJ5.rl]; omega
        have hfo : Foot All (Sl (some ⟨b5, o5, none⟩) 4096 c5 1 (u8s (R.take 4096))) w2 := fun u hu => by
          have h1 := sl_sub (lo := 0) (k := 4096) hJ5.rl (hJ5.r u hu) (by omega)
          simpa using h1
        have hfd : Foot All (Sl (if c5 = 4096 then some ⟨b5, o5, none⟩ else some ⟨b5, o5 + 4096, none⟩) (n5 - 4096) (c5 - 4096) 1 (u8s (R.drop 4096))) w2 := fun u hu => by
          have h1 := sl_sub (lo := 4096) (k := n5 - 4096) hJ5.rl (hJ5.r u hu) (by omega)
          rw [List.take_of_length_le (by rw [List.length_drop, hJ5.rl]; exact Nat.le_refl _)] at h1
          by_cases hck : c5 = 4096
          · exact ⟨h1.1, h1.2.1, fun hp => by omega⟩
          · rw [if_neg hck]; exact h1
        have HE := hid (show ls ++ [frameB (R.take 4096)] ++ (parts4 g (R.drop 4096)).map frameB = chunksB x by
          rw [← hJ5.e, parts4, if_neg (by rw [hJ5.rl]; exact h0),  List.map_cons, List.append_assoc]; rfl)
        have HLN := hid hln; have HFO := hid hfo; have HFD := hid hfd; have HQS := hid hqs
        obtain ⟨A3, c3, rfl⟩ := own_shape hJ5.o
        clear hln hfo hfd hJ5 hqs
        go_wp2_with fail
        refine (rframe_any _ 4096 c5 (R.take 4096) HLN.out (by omega) wr (HFO.out.step hJ.out.k)).mono ?_
        rintro e w9 ⟨⟨v9, rfl, ho9⟩, hk9⟩
        obtain ⟨A9, c9, rfl⟩ := own_shape ho9
        obtain ⟨f9, hf9⟩ : ∃ f9, (frameB (R.take 4096)).length = f9 := ⟨_, rfl⟩
        have HF9 := hid hf9
        rw [hf9] at ho9 ⊢
        have k10 := Kp.al w9 (.cells #[.slice A9 f9 c9] 25)
        have HO9 := hid (own_kept ho9 k10 (fun _ _ => trivial))
        have HO10 := hid (own_kept hJ.out.o (hk9.trans k10) (fun _ _ => trivial))
        have HK10 := hid (hJ.out.k.trans (hk9.trans k10))
        have HFR := hid (hJ.out.fr.keepA (hk9.trans k10))
        have HWR := hid hJ.out.k.size
        clear ho9 hk9 hf9 k10
        go_wp2_with (at_builtin; go_loud (refine wpList_app elbsP HO10.out (sl_new1 _ _ _) (hdr_one _ _ _) ?_ HK10.out.size rfl _ _ rfl rfl rfl ?_); (have := HQS.out; omega); intro v' w11 hown hg hob hnil; have HO11 := hid hown; have HG11 := hid hg; clear hown hg hob hnil)
        have hvb : ∀ g, (Value.slice A3 hs.length c3).ownBlock = some g → ∃ cs fz, (w9.alloc (.cells #[.slice A9 f9 c9] 25)).heap[g]? = some (.cells cs 25 fz) := fun g hg => by
          rcases own_at HO10.out with ⟨e, _⟩ | ⟨g', cap, cur, e, hc, _⟩
          · rw [e] at hg; cases hg
          · rw [e] at hg
            injection hg with hg
            simp only at hg
            exact ⟨cur, (0, 0), by rw [← hg]; exact hc⟩
        have ho9 : w11.ownsRow w2.heap.size 5 1 (hdV (A9, f9, c9)) (frameB (R.take 4096)).length (u8s (frameB (R.take 4096))) := by
          rw [HF9.out]
          refine World.ownsRow.mono (own_kept HO9.out (Kp.grown HG11.out) (fun b hb e => ?_)) HWR.out
          obtain ⟨cs, fz, hg⟩ := hvb b e.symm
          exact own_ne HO9.out hg (by decide) b hb rfl
        refine ⟨⟨_, _, _, R.drop 4096, g, hs ++ [(A9, f9, c9)], ls ++ [frameB (R.take 4096)], rfl, hid ⟨?_, HFD.out, ?_, HFR.out.snoc hvb (Kp.grown HG11.out) ho9, ?_, ?_, HE.out⟩⟩, ?_⟩
        · rw [List.length_drop, hJ.out.rl]
        · rw [List.length_append, List.map_append]
          exact HO11.out
        · exact HK10.out.then (Kp.grown HG11.out) (fun i hi _ e => by
            have := (HO10.out.lt i e.symm).1
            omega)
        · have := hJ.out.fu; omega
        · show n5 - 4096 < n5
          omega
end Go.Proofs.YtbkhademplgicaaGreatDoor

namespace Go.Proofs.YtbkhademplgicaaGreatDoor
open Go.RowKit
set_option linter.unusedVariables false
set_option linter.unusedSimpArgs false
theorem chunks_lens {x : Sn} (hg : goodSnap x = true) : (chunksB x).length ≤ 1000 ∧ (wholeB x).length ≤ 4000000 := by
  have h1 := headB_len x; have h2 := encSnap_len hg; have h3 := whole_len x
  have h4 : (partsB x).length ≤ 600 := by
    rw [partsB_range, List.length_map, List.length_range]
    omega
  refine ⟨by rw [chunksB, List.length_cons, List.length_map]; omega, ?_⟩
  rw [h3]; omega
theorem flatR_take {bs : List By} {j : Nat} {l : By} (h : bs[j]? = some l) : (bs.take (j + 1)).flatten = (bs.take j).flatten ++ l := by
  rw [List.take_add_one, h, List.flatten_append]; simp
theorem flatR_le (bs : List By) (j : Nat) : ((bs.take j).flatten).length ≤ bs.flatten.length := by
  have h : bs.flatten = (bs.take j).flatten ++ (bs.drop j).flatten := by rw [← List.flatten_append, List.take_append_drop]
  rw [h, List.length_append]; omega
set_option maxRecDepth 100000 in
set_option maxHeartbeats 2000000 in
theorem rwhole_any (x : Sn) (VA LA DA : Option Addr) (vn vc ln lc dn dc : Nat) (hgo : goodSnap x = true) (hlen : 9 * (vn + ln) + dn ≤ 1500000) (w : World) (hs : Snp x VA LA DA vn vc ln lc dn dc w) :
    Calls Tryz.prog 45 #[.agg #[.int .i64 x.index, .int .i64 x.term, .slice VA vn vc, .slice LA ln lc, .slice DA dn dc]] w (OutB w (wholeB x)) := by
  have kb := Kp.al w (.cells #[.int .i64 x.index, .int .i64 x.term, .slice VA vn vc, .slice LA ln lc, .slice DA dn dc] 27)
  obtain ⟨W, hW⟩ : ∃ W, W = w.alloc (.cells #[.int .i64 x.index, .int .i64 x.term, .slice VA vn vc, .slice LA ln lc, .slice DA dn dc] 27) := ⟨_, rfl⟩
  rw [← hW] at kb
  have HW := hid hW; have KB := hid kb
  have HCH := hid (rchunks_any x VA LA DA vn vc ln lc dn dc hlen W (hs.step kb))
  have hp : ChP W x = ColP W (chunksB x) := by funext e w'; unfold ChP; rw [if_pos hgo]
  rw [hp] at HCH
  obtain ⟨hq1, hq2⟩ := chunks_lens hgo
  have HQ1 := hid hq1; have HQ2 := hid hq2
  clear hs hp hgo hq1 hq2 hW kb
  go_enter Tryz.func45, Tryz.ntmps45
  go_wp2_with fail
  rw [← HW.out]
  refine HCH.out.mono ?_
  rintro e w4 ⟨v3, hs, rfl, ho3, hf3, hk3⟩
  obtain ⟨A3, c3, rfl⟩ := own_shape ho3
  obtain ⟨q, hq⟩ : ∃ q, hs.length = q := ⟨_, rfl⟩
  have hql : (chunksB x).length = q := by rw [← hq]; exact hf3.1.symm
  have hq9 : q ≤ 1000 := by rw [← hql]; exact HQ1.out
  have HQ := hid hq; have HQL := hid hql; have HK3 := hid hk3; have HF4 := hid (own_footA ho3); have HFR := hid hf3
  rw [hq] at HF4 ⊢
  clear hq hql hk3 ho3 hf3
  go_wp2_with fail
  go_loopw [3, 9] (fun v i wr => ∃ j : Nat, j ≤ q ∧ i = .int .i64 j ∧ Hid (wr.ownsRow w4.heap.size 5 1 v (((chunksB x).take j).flatten).length (u8s (((chunksB x).take j).flatten))) ∧ Hid (Kp All w4 wr)) (fun _ i _ => q - (intOf i).toNat)
  case atStart => exact ⟨0, Nat.zero_le _, rfl, hid (World.ownsRow_nil _ _ _ _), hid (Kp.refl _ _)⟩
  case round =>
    obtain ⟨j, hj, rfl, hO, hK⟩ := hrel
    by_cases hlt2 : j < q
    · have hb1 : decide ((j : Int) < (q : Int)) = true := decide_eq_true (by omega)
      obtain ⟨⟨x1, x2, x3⟩, hx⟩ : ∃ y, hs[j]? = some y := ⟨_, List.getElem?_eq_getElem (by rw [HQ.out]; exact hlt2)⟩
      obtain ⟨l, hy⟩ : ∃ l, (chunksB x)[j]? = some l := ⟨_, List.getElem?_eq_getElem (by rw [HQL.out]; exact hlt2)⟩
      obtain ⟨b, o, eA, hrd⟩ := (HF4.out _ hK.out).2.2 (by omega)
      subst eA
      have hcell := hrd j _ (by rw [List.getElem?_map, hx]; rfl)
      rw [hdV] at hcell
      dsimp only at hcell
      have hyo := (HFR.out.keepA hK.out).2 j _ l hx hy
      rw [hdV] at hyo
      dsimp only at hyo
      have hx2 : l.length = x2 := by
        obtain ⟨A', c', e⟩ := own_shape hyo
        injection e with _ e _
        exact e.symm
      rw [hx2] at hyo
      have HSL := hid (own_footA hyo)
      obtain ⟨A5, c5, rfl⟩ := own_shape hO.out
      obtain ⟨m5, hm5⟩ : ∃ m5, (((chunksB x).take j).flatten).length = m5 := ⟨_, rfl⟩
      have HM5 := hid hm5; have HX2 := hid hx2; have HY := hid hy
      rw [hm5] at hO ⊢
      have hb5 : m5 + x2 ≤ 4000000 := by
        have h1 : (((chunksB x).take (j + 1)).flatten).length = m5 + x2 := by rw [flatR_take hy, List.length_append, hm5, hx2]
        rw [← h1]
        exact Nat.le_trans (flatR_le _ _) HQ2.out
      clear hm5 hx2 hyo hx hy hrd
      have i0 : (0 : Int) ≤ (j : Int) := by omega
      have i1 : (j : Int) < (q : Int) := by omega
      go_wp2_with (at_builtin; go_loud (refine wpList_app el8 hO.out HSL.out.now (u8s_one l) ?_ hK.out.size rfl _ _ rfl rfl rfl ?_); omega; intro v' w5 hown5 hg5 hob5 hnil5; obtain ⟨A6, c6, rfl⟩ := own_shape hown5; have HOW := hid hown5; have HG5 := hid hg5; clear hown5 hg5 hob5 hnil5)
      refine ⟨⟨j + 1, by omega, by go_num, ?_, ?_⟩, by simp [intOf]; omega⟩
      · have h5 := HOW.out
        rw [← u8s_append, ← flatR_take HY.out] at h5
        have h6 : (((chunksB x).take (j + 1)).flatten).length = m5 + x2 := by rw [flatR_take HY.out, List.length_append, HM5.out, HX2.out]
        rw [h6]
        exact hid h5
      · exact hid (hK.out.then (Kp.grown HG5.out) (fun i hi _ e => by
          have := (hO.out.lt i e.symm).1
          omega))
    · have hb1 : decide ((j : Int) < (q : Int)) = false := decide_eq_false (by omega)
      obtain rfl : j = q := by omega
      have e7 : ((chunksB x).take j).flatten = wholeB x := by rw [List.take_of_length_le (by rw [HQL.out]; exact Nat.le_refl _)]; rfl
      go_wp2_with fail
      go_ret
      rw [e7] at hO
      exact ⟨⟨_, rfl, World.ownsRow.mono hO.out (KB.out.trans HK3.out).size⟩, KB.out.trans (HK3.out.trans hK.out)⟩
end Go.Proofs.YtbkhademplgicaaGreatDoor
