/- Plain: a good snapshot's parts: how many, how long; a bit of the first part turned. No condition. The law SnapBack: walked once. No condition but that the snapshot lies and where the library's tables lie. -/
import Derived.Test.YtbkhademplgicaaGreatDoorM16
import Derived.Test.YtbkhademplgicaaGreatDoorM15
set_option linter.unusedVariables false
set_option linter.unusedSimpArgs false
namespace Go.Proofs.YtbkhademplgicaaGreatDoor
open Go.RowKit
set_option linter.unusedVariables false
set_option linter.unusedSimpArgs false
theorem enc_pos (u : Nat) : 0 < (enc u).length := by rw [enc_len]; omega
theorem headB_pos (x : Sn) : 0 < (headB x).length := by
  have := enc_pos (zig x.index)
  simp only [headB, List.length_append, encZg]; omega
theorem parts_pos (x : Sn) : 0 < (partsB x).length := by
  have h := encSnap_pos x
  rw [partsB_range, List.length_map, List.length_range]
  omega
theorem chunks_two (x : Sn) : 2 ≤ (chunksB x).length := by
  have := parts_pos x
  rw [chunksB, List.length_cons, List.length_map]; omega
theorem chunks_len {x : Sn} {l : By} (h : l ∈ chunksB x) : 9 ≤ l.length ∧ l.length ≤ 4104 := by
  rw [chunksB] at h
  rcases List.mem_cons.1 h with rfl | h
  · have h1 := headB_len x; have h2 := headB_pos x
    rw [frameB_len]; omega
  · obtain ⟨c, hc, rfl⟩ := List.mem_map.1 h
    have h1 := parts4_le _ _ c hc
    rw [frameB_len]; omega
theorem chunks_head (x : Sn) : (chunksB x)[0]? = some (frameB (headB x)) := rfl
/-- A byte with a bit turned. -/
theorem turn_byte (x : UInt8) (k : Nat) (hk : k < 8) : UInt8.ofNat (x.toNat ^^^ 2 ^ k) ≠ x := by
  intro e
  have h1 : x.toNat ^^^ 2 ^ k < 256 := Nat.xor_lt_two_pow (n := 8) (by have := x.toNat_lt; omega) (Nat.pow_lt_pow_right (by omega) hk)
  have h2 := congrArg UInt8.toNat e
  rw [UInt8.toNat_ofNat', Nat.mod_eq_of_lt h1] at h2
  have h3 : (2 : Nat) ^ k = 0 := by
    have : x.toNat ^^^ (x.toNat ^^^ 2 ^ k) = x.toNat ^^^ x.toNat := by rw [h2]
    rw [← Nat.xor_assoc, Nat.xor_self, Nat.zero_xor] at this
    exact this
  have h4 : 0 < (2 : Nat) ^ k := Nat.two_pow_pos k
  omega
theorem whole_at {x : Sn} {p : Nat} (hp : p < (headB x).length + 8) : ∃ b, (wholeB x)[p]? = some b := by
  refine ⟨_, List.getElem?_eq_getElem ?_⟩
  rw [whole_len]; omega
end Go.Proofs.YtbkhademplgicaaGreatDoor

namespace Go.Proofs.YtbkhademplgicaaGreatDoor
open Go.RowKit
set_option linter.unusedVariables false
set_option linter.unusedSimpArgs false
theorem greatB_no {vn ln dn : Nat} (h : greatB vn ln dn = false) : dn ≤ 20000 ∧ vn + ln ≤ 100 := by
  unfold greatB at h
  simp only [Bool.or_eq_false_iff, decide_eq_false_iff_not] at h
  omega
theorem Snp.int {x : Sn} {VA LA DA : Option Addr} {vn vc ln lc dn dc : Nat} {w : World} (h : Snp x VA LA DA vn vc ln lc dn dc w) : SnI x := ⟨h.i, h.t, h.cf.vz, h.cf.lz⟩
set_option maxRecDepth 100000 in
set_option maxHeartbeats 2000000 in
theorem snapBack_any (x : Sn) (VA LA DA : Option Addr) (vn vc ln lc dn dc cut bit : Nat) (hc : cut < 18446744073709551616) (hbt : bit < 18446744073709551616) (hl : vn ≤ 1000000000000000 ∧ ln ≤ 1000000000000000) (w : World) (hg : Gl w) (hs : Snp x VA LA DA vn vc ln lc dn dc w) :
    Calls Tryz.prog 4 #[.agg #[.int .i64 x.index, .int .i64 x.term, .slice VA vn vc, .slice LA ln lc, .slice DA dn dc], .int .u64 cut, .int .u64 bit] w (Boo true w) := by
  have HI := hid hs.int
  have kb := Kp.al w (.cells #[.int .i64 x.index, .int .i64 x.term, .slice VA vn vc, .slice LA ln lc, .slice DA dn dc] 27)
  have b1 := blk_new w (.cells #[.int .i64 x.index, .int .i64 x.term, .slice VA vn vc, .slice LA ln lc, .slice DA dn dc] 27)
  obtain ⟨W, hW⟩ : ∃ W, W = w.alloc (.cells #[.int .i64 x.index, .int .i64 x.term, .slice VA vn vc, .slice LA ln lc, .slice DA dn dc] 27) := ⟨_, rfl⟩
  rw [← hW] at kb b1
  have HW := hid hW; have KB := hid kb; have B1 := hid b1; have HS := hid (hs.step kb); have HG := hid (hg.all kb)
  have c1 := blk_cell b1
  have HGR := hid (great_any x.index x.term VA LA DA vn vc ln lc dn dc hl W)
  clear hW kb b1 hs hg
  cases hgr : greatB vn ln dn with
  | true =>
    rw [hgr] at HGR
    go_enter Tryz.func4, Tryz.ntmps4
    go_wp2_with fail
    rw [← HW.out]
    refine HGR.out.mono ?_
    rintro e w2 ⟨rfl, hk2⟩
    have HK2 := hid hk2
    clear hk2
    go_wp2_with fail
    refine (lives12_any w2 (HG.out.all HK2.out)).mono ?_
    rintro e w3 ⟨rfl, hk3⟩
    have HK3 := hid (KB.out.trans (HK2.out.trans hk3))
    clear hk3
    go_wp2_with fail
    go_ret
    exact ⟨rfl, HK3.out⟩
  | false =>
  obtain ⟨hdn, hvl⟩ := greatB_no hgr
  rw [hgr] at HGR
  clear hgr
  go_enter Tryz.func4, Tryz.ntmps4
  go_wp2_with fail
  rw [← HW.out]
  refine HGR.out.mono ?_
  rintro e w2 ⟨rfl, hk2⟩
  have HK2 := hid hk2
  have HB2 := hid (hk2.heap B1.out trivial)
  have c2 := blk_cell HB2.out
  have HS2 := hid (HS.out.step hk2)
  clear hk2
  go_wp2_with fail
  refine (chunks_any x VA LA DA vn vc ln lc dn dc (by omega) w2 HS2.out).mono ?_
  intro e w3 hch
  cases hgo : goodSnap x with
  | false =>
    rw [ChP, if_neg (by rw [hgo]; simp)] at hch
    obtain ⟨rfl, hk3⟩ := hch
    have HK3 := hid (HK2.out.trans hk3)
    have HB3 := hid (hk3.heap HB2.out trivial)
    have c3 := blk_cell HB3.out
    have HRG := hid (rgoodsnap_any x VA LA DA vn vc ln lc dn dc (by omega) (by omega) w3 (HS2.out.step hk3))
    rw [hgo] at HRG
    clear hk3 hgo
    go_wp2_with fail
    refine HRG.out.mono ?_
    rintro e w4 ⟨rfl, hk4⟩
    have HK4 := hid (HK3.out.trans hk4)
    clear hk4
    go_wp2_with fail
    refine (lives12_any w4 (HG.out.all HK4.out)).mono ?_
    rintro e w5 ⟨rfl, hk5⟩
    have HK5 := hid (KB.out.trans (HK4.out.trans hk5))
    clear hk5
    go_wp2_with fail
    go_ret
    exact ⟨rfl, HK5.out⟩
  | true =>
  rw [ChP, if_pos hgo] at hch
  obtain ⟨v3, hs, rfl, ho3, hf3, hk3⟩ := hch
  obtain ⟨A3, c3', rfl⟩ := own_shape ho3
  obtain ⟨q, hq⟩ : ∃ q, hs.length = q := ⟨_, rfl⟩
  have hql : (chunksB x).length = q := by rw [← hq]; exact hf3.1.symm
  obtain ⟨hq1, hq2⟩ := chunks_small hgo
  have hq3 := chunks_two x
  rw [hql] at hq1 hq3
  have HF := hid (own_footA ho3)
  have HFS := hid (rowsAt_S (S := All) hf3 (fun _ _ => trivial))
  have HK3 := hid (HK2.out.trans hk3); have HQ := hid hq; have HQL := hid hql; have HQ2 := hid hq2
  have HB3 := hid (hk3.heap HB2.out trivial)
  have c3 := blk_cell HB3.out
  have HS3 := hid (HS2.out.step hk3)
  have HRG := hid (rgoodsnap_any x VA LA DA vn vc ln lc dn dc (by omega) (by omega) w3 (HS2.out.step hk3))
  rw [hgo] at HRG
  have HGO := hid hgo
  rw [hq] at HF ⊢
  clear hk3 hgo ho3 hf3 hq hql hq2
  go_wp2_with fail
  refine HRG.out.mono ?_
  rintro e w4 ⟨rfl, hk4⟩
  have HK4 := hid (HK3.out.trans hk4); have HS4 := hid (HS3.out.step hk4); have HF4 := hid (HF.out.step hk4)
  have HFS4 : Hid (∀ (i : Nat) (y : Hd) (l : By), hs[i]? = some y → (chunksB x)[i]? = some l → l.length = y.2.1 ∧ Foot All (Sl y.1 y.2.1 y.2.2 1 (u8s l)) w4) := hid (fun i y l h1 h2 => ⟨(HFS.out i y l h1 h2).1, (HFS.out i y l h1 h2).2.step hk4⟩)
  have HB4 := hid (hk4.heap HB3.out trivial)
  clear hk4
  go_wp2_with fail
  go_loopw [8, 34] (fun v i wr => ∃ j : Nat, j ≤ q ∧ i = .int .i64 j ∧ Hid (wr.ownsRow w4.heap.size 5 1 v (((chunksB x).take j).flatten).length (u8s (((chunksB x).take j).flatten))) ∧ Hid (Kp All w4 wr)) (fun _ i _ => q - (intOf i).toNat)
  case atStart => exact ⟨0, Nat.zero_le _, rfl, hid (World.ownsRow_nil _ _ _ _), hid (Kp.refl _ _)⟩
  case round =>
    obtain ⟨j, hj, rfl, hO, hK⟩ := hrel
    by_cases hlt2 : j < q
    · have hb1 : decide ((j : Int) < (q : Int)) = true := decide_eq_true (by omega)
      obtain ⟨⟨x1, x2, x3⟩, hx⟩ : ∃ y, hs[j]? = some y := ⟨_, List.getElem?_eq_getElem (by rw [HQ.out]; exact hlt2)⟩
      obtain ⟨l, hy⟩ : ∃ l, (chunksB x)[j]? = some l := ⟨_, List.getElem?_eq_getElem (by rw [HQL.out]; exact hlt2)⟩
      obtain ⟨b, o, eA, hrd⟩ := (HF4.out _ hK.out).2.2 (by omega)
      subst eA
      have hcell := hrd j _ (by rw [List.getElem?_map, hx]; rfl)
      rw [hdV] at hcell
      dsimp only at hcell
      obtain ⟨hx2, hsl⟩ := HFS4.out j _ l hx hy
      dsimp only at hx2 hsl
      have hcl := chunks_len (List.mem_of_getElem? hy)
      have HSL := hid (hsl.step hK.out)
      obtain ⟨A5, c5, rfl⟩ := own_shape hO.out
      obtain ⟨m5, hm5⟩ : ∃ m5, (((chunksB x).take j).flatten).length = m5 := ⟨_, rfl⟩
      have HM5 := hid hm5; have HX2 := hid hx2; have HY := hid hy
      rw [hm5] at hO ⊢
      have hb5 : m5 + x2 ≤ 4000000 := by
        have h1 : (((chunksB x).take (j + 1)).flatten).length = m5 + x2 := by rw [flatB_take hy, List.length_append, hm5, hx2]
        rw [← h1]
        exact Nat.le_trans (flatB_le _) HQ2.out
      have k9 : decide ((x2 : Int) < 9) = false := decide_eq_false (by omega)
      have k4 : decide (4104 < (x2 : Int)) = false := decide_eq_false (by omega)
      clear hm5 hx2 hsl hx hy hrd hcl
      have i0 : (0 : Int) ≤ (j : Int) := by omega
      have i1 : (j : Int) < (q : Int) := by omega
      go_wp2_with (at_builtin; go_loud (refine wpList_app el8 hO.out HSL.out.now (u8s_one l) ?_ hK.out.size rfl _ _ rfl rfl rfl ?_); omega; intro v' w5 hown5 hg5 hob5 hnil5; obtain ⟨A6, c6, rfl⟩ := own_shape hown5; have HOW := hid hown5; have HG5 := hid hg5; clear hown5 hg5 hob5 hnil5)
      refine ⟨⟨j + 1, by omega, by go_num, ?_, ?_⟩, by simp [intOf]; omega⟩
      · have h5 := HOW.out
        rw [← u8s_append, ← flatB_take HY.out] at h5
        have h6 : (((chunksB x).take (j + 1)).flatten).length = m5 + x2 := by rw [flatB_take HY.out, List.length_append, HM5.out, HX2.out]
        rw [h6]
        exact hid h5
      · exact hid (hK.out.then (Kp.grown HG5.out) (fun i hi _ e => by
          have := (hO.out.lt i e.symm).1
          omega))
    · have hb1 : decide ((j : Int) < (q : Int)) = false := decide_eq_false (by omega)
      obtain rfl : j = q := by omega
      have e7 : ((chunksB x).take j).flatten = wholeB x := by rw [List.take_of_length_le (by rw [HQL.out]; exact Nat.le_refl _)]; rfl
      obtain ⟨A7, c7, rfl⟩ := own_shape hO.out
      rw [e7] at hO ⊢
      obtain ⟨t, ht⟩ : ∃ t, (wholeB x).length = t := ⟨_, rfl⟩
      have HT := hid ht
      have ht4 : t ≤ 4000000 := by rw [← ht]; exact HQ2.out
      rw [ht] at hO ⊢
      have k2 : decide ((j : Int) < 2) = false := decide_eq_false (by omega)
      have HFB := hid (own_footA hO.out)
      have ht9' : 0 < t := by
        have h1 := whole_len x; have h2 := headB_pos x
        rw [ht] at h1; omega
      obtain ⟨g7, rfl⟩ : ∃ g, A7 = some ⟨g, 0, none⟩ := by
        rcases own_at hO.out with ⟨_, h, _⟩ | ⟨g, cap, cur, e, _⟩
        · omega
        · injection e with e _ _; exact ⟨g, e⟩
      have hct : t ≤ c7 := HFB.out.now.2.1
      have ht9 : 9 ≤ t := by
        have h1 := whole_len x; have h2 := headB_pos x
        rw [ht] at h1; omega
      obtain ⟨hl, hhl⟩ : ∃ hl, (headB x).length = hl := ⟨_, rfl⟩
      have HHL := hid hhl
      have hh1 : 1 ≤ hl := by have := headB_pos x; omega
      have hh2 : hl ≤ 36 := by have := headB_len x; omega
      have hht : hl + 8 ≤ t := by
        have h1 := whole_len x
        rw [ht, hhl] at h1; omega
      clear ht e7 hhl
      go_wp2_with fail
      refine (join_any _ t c7 (wholeB x) HT.out ht4 wr HFB.out).mono ?_
      rintro e w5 ⟨hk5, hj5⟩
      rw [joinP_whole HI.out HGO.out] at hj5
      dsimp only at hj5
      obtain ⟨VB, LB, DB, vd, ld, dd, rfl, hs5⟩ := hj5
      obtain ⟨vm, hvm⟩ : ∃ vm, x.V.length = vm := ⟨_, rfl⟩
      obtain ⟨lm, hlm⟩ : ∃ lm, x.L.length = lm := ⟨_, rfl⟩
      obtain ⟨dm, hdm⟩ : ∃ dm, x.data.length = dm := ⟨_, rfl⟩
      have hvm2 : vm ≤ 100 := by have := HS4.out.cf.vn; omega
      have hlm2 : lm ≤ 100 := by have := HS4.out.cf.ln; omega
      rw [hvm, hlm, hdm] at hs5 ⊢
      have HS5 := hid hs5
      have hg7 : g7 < wr.heap.size := by
        rcases own_at hO.out with ⟨_, h, _⟩ | ⟨g, cap, cur, e, hg, _⟩
        · omega
        · injection e with e _ _
          injection e with e
          injection e with e _
          subst e
          exact (Array.getElem?_eq_some_iff.1 hg).1
      have hg4 : w4.heap.size ≤ g7 := by
        rcases own_at hO.out with ⟨_, h, _⟩ | ⟨g, cap, cur, e, hg, hbs, _⟩
        · omega
        · injection e with e _ _
          injection e with e
          injection e with e _
          subst e
          exact hbs
      have HG7 := hid hg7; have HG4 := hid hg4; have HWS := hid hk5.size
      clear hg7 hg4
      have HK5 := hid (hK.out.trans hk5)
      have HO5 := hid (own_kept hO.out hk5 (fun _ _ => trivial))
      clear hs5 hk5 hvm hlm hdm
      have ec : ((cut : Int) % (t : Int)) = ((cut % t : Nat) : Int) := by omega
      have ec2 : cut % t < t := Nat.mod_lt _ (by omega)
      obtain ⟨m, hm⟩ : ∃ m, cut % t = m := ⟨_, rfl⟩
      rw [hm] at ec ec2
      have em : (m : Int) ≤ (c7 : Int) := by omega
      have em0 : (0 : Int) ≤ (m : Int) := by omega
      clear hm
      go_wp2_with fail
      have k6 := Kp.al w5 (.cells #[.int .i64 x.index, .int .i64 x.term, .slice VB vm vd, .slice LB lm ld, .slice DB dm dd] 27)
      have b6 := blk_new w5 (.cells #[.int .i64 x.index, .int .i64 x.term, .slice VB vm vd, .slice LB lm ld, .slice DB dm dd] 27)
      obtain ⟨w6, hw6⟩ : ∃ w6, w6 = w5.alloc (.cells #[.int .i64 x.index, .int .i64 x.term, .slice VB vm vd, .slice LB lm ld, .slice DB dm dd] 27) := ⟨_, rfl⟩
      rw [← hw6] at k6 b6 ⊢
      have HK6 := hid (HK5.out.trans k6); have HO6 := hid (own_kept HO5.out k6 (fun _ _ => trivial)); have HS6 := hid (HS5.out.step k6.all); have HJ6 := hid b6
      clear hw6 k6 b6
      have hcut : joinP ((wholeB x).take m) = none := joinP_cut HI.out HGO.out (by rw [HT.out]; exact ec2)
      have hlm : ((wholeB x).take m).length = m := by rw [List.length_take, HT.out]; omega
      have hfm : Foot All (Sl (some ⟨g7, 0, none⟩) m c7 1 (u8s ((wholeB x).take m))) w6 := fun u hu => by
        have h1 := sl_sub (lo := 0) (k := m) HT.out ((own_footA HO6.out) u hu) (by omega)
        simpa using h1
      have HCUT := hid hcut
      refine (join_any _ m c7 _ hlm (by omega) w6 hfm).mono ?_
      rintro e w7 ⟨hk7, hj7⟩
      rw [HCUT.out] at hj7
      dsimp only at hj7
      subst hj7
      have HK7 := hid (HK6.out.trans hk7); have HO7 := hid (own_kept HO6.out hk7 (fun _ _ => trivial)); have HS7 := hid (HS6.out.step hk7.all); have HJ7 := hid (hk7.heap HJ6.out trivial)
      clear hk7 hcut hlm hfm
      obtain ⟨⟨z1, z2, z3⟩, hx⟩ : ∃ y, hs[0]? = some y := ⟨_, List.getElem?_eq_getElem (by rw [HQ.out]; omega)⟩
      obtain ⟨hz2, _⟩ := HFS4.out 0 _ _ hx (chunks_head x)
      dsimp only at hz2
      rw [frameB_len, HHL.out] at hz2
      obtain ⟨b3, o3, rfl, hrd⟩ := (HF4.out _ HK7.out).2.2 (by omega)
      have hcell := hrd 0 _ (by rw [List.getElem?_map, hx]; rfl)
      rw [Nat.add_zero, hdV] at hcell
      dsimp only at hcell
      subst hz2
      clear hrd hx
      have k8 := Kp.al w7 (Obj.cells #[.int .i64 0, .int .i64 0, .slice none 0 0, .slice none 0 0, .slice none 0 0] 27)
      have b8 := blk_new w7 (Obj.cells #[.int .i64 0, .int .i64 0, .slice none 0 0, .slice none 0 0, .slice none 0 0] 27)
      have HK8 := hid (HK7.out.trans k8); have HO8 := hid (own_kept HO7.out k8 (fun _ _ => trivial)); have HS8 := hid (HS7.out.step k8.all); have HJ8 := hid (k8.heap HJ7.out trivial)
      have eb : ((bit : Int) % (8 * (hl : Int))) = ((bit % (8 * hl) : Nat) : Int) := by
        rw [show (8 * (hl : Int)) = ((8 * hl : Nat) : Int) by omega]; rfl
      have eb2 : bit % (8 * hl) < 8 * hl := Nat.mod_lt _ (by omega)
      obtain ⟨kb, hkb⟩ : ∃ kb, bit % (8 * hl) = kb := ⟨_, rfl⟩
      rw [hkb] at eb eb2
      obtain ⟨p, hp⟩ : ∃ p, 8 + kb / 8 = p := ⟨_, rfl⟩
      obtain ⟨r, hr⟩ : ∃ r, kb % 8 = r := ⟨_, rfl⟩
      have hr8 : r < 8 := by omega
      have hp2 : p < hl + 8 := by omega
      have hp4 : 4 ≤ p := by omega
      have hpt : p < t := by omega
      have ed : ((bit : Int) % (8 * (hl : Int))).tdiv 8 = ((kb / 8 : Nat) : Int) := by rw [eb]; rfl
      have ew1 : IntKind.u64.wrap (((bit : Int) % (8 * (hl : Int))).tdiv 8) = ((kb / 8 : Nat) : Int) := by rw [ed]; exact IntWalk.u64_in _ (by omega)
      have ew : IntKind.u64.wrap (8 + IntKind.u64.wrap (((bit : Int) % (8 * (hl : Int))).tdiv 8)) = ((p : Nat) : Int) := by
        rw [ew1, ← hp]
        exact IntWalk.u64_in _ (by omega)
      have em8 : ((bit : Int) % (8 * (hl : Int))).tmod 8 = ((r : Nat) : Int) := by rw [eb, ← hr]; rfl
      have er : IntKind.u64.wrap (((bit : Int) % (8 * (hl : Int))).tmod 8) = ((r : Nat) : Int) := by rw [em8]; exact IntWalk.u64_in _ (by omega)
      obtain ⟨x0, hx0⟩ := whole_at (x := x) (p := p) (by rw [HHL.out]; exact hp2)
      have hcp : (w7.alloc (Obj.cells #[.int .i64 0, .int .i64 0, .slice none 0 0, .slice none 0 0, .slice none 0 0] 27)).cell? ⟨g7, p, none⟩ = some (.int .u8 x0.toNat) := by
        rcases own_at HO8.out with ⟨_, h, _⟩ | ⟨g, cap, cur, e, hg, hbs, hrr⟩
        · omega
        · injection e with e _ _
          injection e with e
          injection e with e _
          subst e
          exact hrr p _ (by rw [u8s, List.getElem?_map, hx0]; rfl)
      have hfp : (w7.alloc (Obj.cells #[.int .i64 0, .int .i64 0, .slice none 0 0, .slice none 0 0, .slice none 0 0] 27)).frozen? ⟨g7, p, none⟩ = false := by
        rcases own_at HO8.out with ⟨_, h, _⟩ | ⟨g, cap, cur, e, hg, hbs, hrr⟩
        · omega
        · injection e with e _ _
          injection e with e
          injection e with e _
          subst e
          exact blk_free hg p
      have HX0 := hid hx0
      have hcl0 := Lib.cell?_alloc_marked (W := w7) (Obj.cells #[.int .i64 0, .int .i64 0, .slice none 0 0, .slice none 0 0, .slice none 0 0] 27) hcell
      have ip0 : (0 : Int) ≤ (p : Int) := by omega
      have ip1 : (p : Int) < (t : Int) := by omega
      clear hkb hp hr k8 b8 hx0
      obtain ⟨q2, hq2⟩ : ∃ q2, 2 ^ r = q2 := ⟨_, rfl⟩
      have hq28 : q2 < 256 := by rw [← hq2]; have h7 : 2 ^ r ≤ 2 ^ 7 := Nat.pow_le_pow_right (by omega) (by omega); exact Nat.lt_of_le_of_lt h7 (by decide)
      have es : ∀ W, (Op.shift BinOp.shl IntKind.u8 1 IntKind.u64 (((bit : Int) % (8 * (hl : Int))).tmod 8)).run Tryz.prog W = .ok (.int .u8 (q2 : Int)) W := fun W => by
        rw [em8, shift_shl_any _ _ _ _ (by omega)]
        have e1 : IntKind.u8.wrap (1 * 2 ^ min (((r : Nat) : Int)).toNat IntKind.u8.bits) = (q2 : Int) := by
          have e2 : min (((r : Nat) : Int)).toNat IntKind.u8.bits = r := by show min r 8 = r; omega
          rw [e2, Int.one_mul, show ((2 : Int) ^ r) = ((2 ^ r : Nat) : Int) by norm_cast, hq2]
          exact IntWalk.u8_in _ (by omega)
        rw [e1]; rfl
      obtain ⟨y, hy⟩ : ∃ y, UInt8.ofNat (x0.toNat ^^^ q2) = y := ⟨_, rfl⟩
      have hyx : y ≠ x0 := by rw [← hy, ← hq2]; exact turn_byte x0 r hr8
      have ex : bits .xor .u8 ((x0.toNat : Nat) : Int) (q2 : Int) = ((y.toNat : Nat) : Int) := by
        rw [u8_xor_nat _ _ (by have := x0.toNat_lt; omega) hq28, ← hy, UInt8.toNat_ofNat', Nat.mod_eq_of_lt (Nat.xor_lt_two_pow (n := 8) (by have := x0.toNat_lt; omega) (by omega))]
      have HYX := hid hyx
      clear ed ew1 em8 eb hq2 hq28 hy hyx
      go_wp2_with fail
      obtain ⟨w8, hw8⟩ : ∃ w8, w8 = w7.alloc (Obj.cells #[.int .i64 0, .int .i64 0, .slice none 0 0, .slice none 0 0, .slice none 0 0] 27) := ⟨_, rfl⟩
      rw [← hw8] at HK8 HO8 HS8 HJ8 ⊢
      clear hw8 hcp hfp es hcl0
      have ho9 := (HO8.out.stored p (.int .u8 y.toNat)).1
      have k9 : Kp (fun i => i ≠ g7) w8 (w8.setCell ⟨g7, p, none⟩ (.int .u8 y.toNat)) := (Kp.refl _ _).setOut (fun h => h rfl) _
      obtain ⟨w9, hw9⟩ : ∃ w9, w9 = w8.setCell ⟨g7, p, none⟩ (.int .u8 y.toNat) := ⟨_, rfl⟩
      rw [← hw9] at ho9 k9 ⊢
      have e9 : (u8s (wholeB x)).set p (.int .u8 y.toNat) = u8s ((wholeB x).set p y) := by rw [u8s, u8s, List.map_set]
      rw [e9] at ho9
      have HK9 := hid (HK8.out.then k9 (fun i hi _ => by have := HG4.out; show i ≠ g7; omega))
      have HS9 := hid (HS8.out.step (k9.mono (fun i _ hi => by have := HG7.out; show i ≠ g7; omega)))
      have HJ9 := hid (k9.heap HJ8.out (by have h1 := HG7.out; have h2 := HWS.out; show w5.heap.size ≠ g7; omega))
      have HF9 := hid (own_footA ho9)
      clear hw9 ho9 k9 e9
      have htn : joinP ((wholeB x).set p y) = none := joinP_turned HGO.out hp4 (by rw [HHL.out]; exact hp2) (by
        rw [HX0.out]
        intro e
        injection e with e
        exact HYX.out e.symm)
      have htl : ((wholeB x).set p y).length = t := by rw [List.length_set]; exact HT.out
      have HTN := hid htn
      refine (join_any _ t c7 _ htl ht4 w9 HF9.out).mono ?_
      rintro e w10 ⟨hk10, hj10⟩
      rw [HTN.out] at hj10
      dsimp only at hj10
      subst hj10
      have HK10 := hid (HK9.out.trans hk10); have HS10 := hid (HS9.out.step hk10.all); have HJ10 := hid (hk10.heap HJ9.out trivial)
      clear htn htl hk10
      have k11 := Kp.al w10 (Obj.cells #[.int .i64 0, .int .i64 0, .slice none 0 0, .slice none 0 0, .slice none 0 0] 27)
      have HK11 := hid (HK10.out.trans k11); have HS11 := hid (HS10.out.step k11.all)
      have q1 := blk_cell (k11.heap HJ10.out trivial)
      have q2' := blk_cell (HK11.out.heap HB4.out trivial)
      have HSS := hid (rsamesnap_any x x VB LB DB VA LA DA vm vd lm ld dm dd vn vc ln lc dn dc (by omega) _ HS11.out.snp (HS4.out.step HK11.out))
      rw [sameB_refl] at HSS
      clear k11
      go_wp2_with fail
      refine HSS.out.mono ?_
      rintro e w12 ⟨rfl, hk12⟩
      have HK12 := hid (HK4.out.trans (HK11.out.trans hk12))
      clear hk12
      go_wp2_with fail
      refine (lives12_any w12 (HG.out.all HK12.out)).mono ?_
      rintro e w13 ⟨rfl, hk13⟩
      have HK13 := hid (KB.out.trans (HK12.out.trans hk13))
      clear hk13
      go_wp2_with fail
      go_ret
      exact ⟨rfl, HK13.out⟩
end Go.Proofs.YtbkhademplgicaaGreatDoor
