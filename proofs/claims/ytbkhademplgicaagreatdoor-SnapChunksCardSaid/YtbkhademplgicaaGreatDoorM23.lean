/- The document's Join: walked once. No condition but that the bytes lie and are not great. The law SnapChunks: walked once. No condition but that the snapshot and the bytes lie and where the library's tables lie. -/
import Derived.Test.YtbkhademplgicaaGreatDoorM21
import Derived.Test.YtbkhademplgicaaGreatDoorM20
import Derived.Test.YtbkhademplgicaaGreatDoorM10
import Derived.Test.YtbkhademplgicaaGreatDoorM22
import Derived.Test.YtbkhademplgicaaGreatDoorM17
set_option linter.unusedVariables false
set_option linter.unusedSimpArgs false
namespace Go.Proofs.YtbkhademplgicaaGreatDoor
open Go.RowKit
set_option linter.unusedVariables false
set_option linter.unusedSimpArgs false
/-- The loop's state: where it is, data D, what the whole makes. -/
structure JSr (n : Nat) (xs : By) (w1 : World) (D : By) (m a ki f : Nat) (v : Value) (wr : World) : Prop where
  an : a ≤ n
  dl : D.length = m
  o : wr.ownsRow w1.heap.size 5 1 v m (u8s D)
  k : Kp All w1 wr
  j : joinL (n + 1) xs true [] = joinL f (xs.drop a) (ki == 0) D
  fu : n - a < f
  sm : m ≤ a
  ka : ki ≤ a
set_option maxRecDepth 100000 in
set_option maxHeartbeats 1000000 in
theorem rjoin_any (A : Option Addr) (n c : Nat) (xs : By) (hn : xs.length = n) (hl : n ≤ 4000000) (w : World) (h : Foot All (Sl A n c 1 (u8s xs)) w) :
    Calls Tryz.prog 13 #[.slice A n c] w (JoinR xs w) := by
  have HN := hid hn
  have k1 := Kp.al w (Obj.cells #[.int .i64 0, .int .i64 0, .slice none 0 0, .slice none 0 0, .slice none 0 0] 27)
  have b1 := blk_new w (Obj.cells #[.int .i64 0, .int .i64 0, .slice none 0 0, .slice none 0 0, .slice none 0 0] 27)
  have H := hid (h.step k1)
  obtain ⟨w1, hw1⟩ : ∃ w1, w1 = w.alloc (Obj.cells #[.int .i64 0, .int .i64 0, .slice none 0 0, .slice none 0 0, .slice none 0 0] 27) := ⟨_, rfl⟩
  have hz1 : w1.heap.size = w.heap.size + 1 := by rw [hw1, World.size_alloc]
  have HW1 := hid hw1
  rw [← hw1] at H k1 b1
  have K1 := hid k1; have B1 := hid b1; have Z1 := hid hz1
  clear h hn hw1 k1 b1 hz1
  go_enter Tryz.func13, Tryz.ntmps13
  go_wp2_with fail
  rw [← HW1.out]
  go_loopw [4, 5, 6] (fun v at_ i wr => ∃ (D : By) (m a k f : Nat), at_ = .int .i64 a ∧ i = .int .i64 k ∧ Hid (JSr n xs w1 D m a k f v wr)) (fun _ at_ _ _ => n - (intOf at_).toNat)
  case atStart => exact ⟨[], 0, 0, 0, n + 1, rfl, rfl, hid ⟨Nat.zero_le _, rfl, World.ownsRow_nil _ _ _ _, Kp.refl _ _, rfl, by omega, Nat.le_refl _, Nat.le_refl _⟩⟩
  case round =>
    obtain ⟨D, m, a, k, f, rfl, rfl, hJ⟩ := hrel
    by_cases h0 : a < n
    · have d0 : decide ((a : Int) < (n : Int)) = true := decide_eq_true (by omega)
      have hJ5 := hJ.out
      obtain ⟨b5, o5, rfl, hrd⟩ := H.out.now.2.2 (by omega)
      have hnc := H.out.now.2.1
      obtain ⟨g, rfl⟩ : ∃ g, f = g + 1 := ⟨f - 1, by have := hJ5.fu; omega⟩
      have hfo : Foot All (Sl (some ⟨b5, o5 + a, none⟩) (n - a) (c - a) 1 (u8s (xs.drop a))) w1 := fun u hu => by
        have h1 := sl_sub (lo := a) (k := n - a) HN.out (H.out u hu) (by omega)
        rwa [List.take_of_length_le (by rw [List.length_drop, HN.out]; exact Nat.le_refl _)] at h1
      have hrl : (xs.drop a).length = n - a := by rw [List.length_drop, HN.out]
      have HFO := hid hfo; have HRL := hid hrl
      have i0 : (0 : Int) ≤ (a : Int) := by omega
      have i1 : (a : Int) ≤ (n : Int) := by omega
      have i2 : (n : Int) ≤ (c : Int) := by omega
      have i3 : (a : Int) ≤ (c : Int) := by omega
      have i4 : c ≠ a := by omega
      clear hrd hfo hrl
      go_wp2_with fail
      refine (runframe_any _ (n - a) (c - a) (xs.drop a) HRL.out (by omega) _ (HFO.out.step hJ5.k)).mono ?_
      rintro e w2 ⟨v2, rfl, ho2, hk2⟩
      obtain ⟨⟨cc, kk, er⟩, hu⟩ : ∃ u, unfP (xs.drop a) = u := ⟨_, rfl⟩
      rw [hu] at ho2 ⊢
      dsimp only at ho2 ⊢
      obtain ⟨A2, c2, rfl⟩ := own_shape ho2
      have HO2 := hid ho2; have HK2 := hid hk2; have HU := hid hu
      clear ho2 hk2 hu hJ5
      by_cases he : er = 0
      case neg =>
        have d1 : (er != 0) = true := by simpa using he
        have d2 : (er == 0) = false := by simpa using he
        have hJ5 := hJ.out
        have hb2 := (hJ5.k.trans HK2.out).heap B1.out trivial
        have c2' := blk_cell hb2
        have f2' := blk_free hb2
        have hk2 : Kp All w w2 := K1.out.trans (hJ5.k.trans HK2.out)
        have hjn : joinP xs = none := joinP_none (by
          rw [HN.out, hJ5.j]
          exact joinL_bad (by rw [HRL.out]; omega) (by rw [HU.out]; exact he))
        have HB2 := hid hb2; have HKK := hid hk2; have HJN := hid hjn
        clear hb2 hk2 hjn hJ5
        go_wp2_with fail
        have cF := blk_cell (set5 (v0 := .int .i64 0) (v1 := .int .i64 0) (v2 := .slice none 0 0) (v3 := .slice none 0 0) (v4 := .slice none 0 0) HB2.out)
        refine bodyPost_ret (v := .tuple #[.agg #[.int .i64 0, .int .i64 0, .slice none 0 0, .slice none 0 0, .slice none 0 0], .int .i64 8]) (by simp [results, Tryz.results13, go_sem, cF]) rfl ⟨HKK.out.then kp5 (fun i hi _ e => by omega), ?_⟩
        rw [HJN.out]
      subst he
      obtain ⟨hcl, hkk0, hR⟩ := unfP_ok HU.out
      obtain ⟨cl, hcle⟩ : ∃ cl, cc.length = cl := ⟨_, rfl⟩
      have hclk : cl + 8 = kk := by omega
      have HCL := hid hcle; have HCK := hid hclk; have HCM := hid hcl
      rw [hcle] at HO2 ⊢
      have hJ5 := hJ.out
      have hkn : a + kk ≤ n := by
        have := congrArg List.length hR
        rw [List.length_append, frameB_len, List.length_drop, List.length_drop, HN.out] at this
        omega
      have h8 : 8 ≤ kk := by omega
      clear hcl hkk0 hcle hclk
      have hjn : joinL (n + 1) xs true [] = joinL g (xs.drop (a + kk)) false (if (k == 0) then D else D ++ cc) := by
        rw [hJ5.j, joinL, if_neg (by rw [HRL.out]; omega), if_neg (by rw [HU.out]; simp), HU.out, List.drop_drop]
      have HJN := hid hjn; have HR := hid hR
      have hb2 : Kp All w1 w2 := hJ5.k.trans HK2.out
      have HKK := hid hb2
      have hown : w2.ownsRow w1.heap.size 5 1 u4 m (u8s D) := own_kept hJ5.o HK2.out (fun _ _ => trivial)
      have HOW := hid hown
      have ea : IntKind.i64.wrap ((a : Int) + (kk : Int)) = ((a + kk : Nat) : Int) := by
        rw [show (a : Int) + (kk : Int) = ((a + kk : Nat) : Int) by omega]
        exact IntWalk.i64_in _ (by omega)
      have hka := hJ5.ka
      clear hjn hR hb2 hown hJ5
      by_cases hk0 : k = 0
      · subst hk0
        go_wp2_with fail
        refine ⟨⟨D, m, a + kk, 1, g, by go_num, by go_num, hid ⟨hkn, hJ.out.dl, HOW.out, HKK.out, HJN.out, ?_, ?_, ?_⟩⟩, ?_⟩
        · have := hJ.out.fu; omega
        · have := hJ.out.sm; omega
        · omega
        · simp [intOf]; omega
      · have d3 : decide ((0 : Int) < (k : Int)) = true := decide_eq_true (by omega)
        have d4 : (k == 0) = false := by simpa using hk0
        obtain ⟨A4, c4, rfl⟩ := own_shape HOW.out
        have hsl : Foot All (Sl A2 cl c2 1 (u8s cc)) w2 := own_footA HO2.out
        have HSL := hid hsl
        have hmn : m + cl ≤ 4000000 := by
          have h1 := hJ.out.sm; have h2 := HCK.out
          omega
        have HD4 := hid d4
        clear hsl d4
        go_wp2_with (at_builtin; go_loud (refine wpList_app el8 HOW.out HSL.out.now (u8s_one cc) ?_ HKK.out.size rfl _ _ rfl rfl rfl ?_); omega; intro v' w5 hown5 hg5 hob5 hnil5; obtain ⟨A6, c6, rfl⟩ := own_shape hown5; have HOW5 := hid hown5; have HG5 := hid hg5; clear hown5 hg5 hob5 hnil5)
        have hjn2 := HJN.out
        rw [HD4.out, if_neg (by simp)] at hjn2
        refine ⟨⟨D ++ cc, m + cl, a + kk, k + 1, g, by go_num, by go_num, hid ⟨hkn, ?_, ?_, ?_, hjn2, ?_, ?_, ?_⟩⟩, ?_⟩
        · rw [List.length_append, hJ.out.dl, HCL.out]
        · have := HOW5.out
          rwa [← u8s_append] at this
        · exact HKK.out.then (Kp.grown HG5.out) (fun i hi _ e => by
            have := (HOW.out.lt i e.symm).1
            omega)
        · have := hJ.out.fu; omega
        · have h1 := hJ.out.sm; have h2 := HCK.out
          omega
        · have := hJ.out.ka; omega
        · simp [intOf]; omega
    · have d0 : decide ((a : Int) < (n : Int)) = false := decide_eq_false (by omega)
      have hJ5 := hJ.out
      obtain rfl : a = n := by have := hJ5.an; omega
      obtain ⟨A4, c4, rfl⟩ := own_shape hJ5.o
      go_wp2_with fail
      refine (rreadsnap_any A4 m c4 D hJ5.dl (by have := hJ5.sm; omega) wr (Foot.mono (own_footA hJ5.o) (fun _ _ _ => trivial))).mono ?_
      rintro e w2 ⟨hk2, hr2⟩
      have hjl : joinL (a + 1) xs true [] = some D := by
        rw [hJ5.j]
        exact joinL_end (by rw [List.length_drop, HN.out]; omega) (by have := hJ5.fu; omega)
      have hkk := hJ5.k.trans hk2
      have HJL := hid hjl; have HKK := hid hkk
      have HB2 := hid (hkk.heap B1.out trivial)
      have HWS := hid hJ5.k.size
      clear hjl hkk hJ5 hk2
      cases hrs : readSnapP D with
      | none =>
        rw [hrs] at hr2
        dsimp only at hr2
        subst hr2
        have HRS := hid (show joinP xs = none by rw [joinP, HN.out, HJL.out]; dsimp only; rw [hrs])
        have hb7 := blk_alloc HB2.out (Obj.cells #[.int .i64 0, .int .i64 0, .slice none 0 0, .slice none 0 0, .slice none 0 0] 27)
        have c7 := blk_cell hb7
        have f7 := blk_free hb7
        have HB7 := hid hb7
        clear hrs hb7
        go_wp2_with fail
        go_quiet (fail)
        rename_i nq
        have hb8 := ((Kp.refl All (w2.alloc (Obj.cells #[.int .i64 0, .int .i64 0, .slice none 0 0, .slice none 0 0, .slice none 0 0] 27))).drewN nq).heap HB7.out trivial
        have c8 := blk_cell hb8
        have f8 := blk_free hb8
        have HB8 := hid hb8
        clear hb8
        go_wp2_with fail
        have cF := blk_cell (set5 (v0 := .int .i64 0) (v1 := .int .i64 0) (v2 := .slice none 0 0) (v3 := .slice none 0 0) (v4 := .slice none 0 0) HB8.out)
        refine bodyPost_ret (v := .tuple #[.agg #[.int .i64 0, .int .i64 0, .slice none 0 0, .slice none 0 0, .slice none 0 0], .int .i64 8]) (by simp [results, Tryz.results13, go_sem, cF]) rfl ⟨(((K1.out.trans HKK.out).alloc _).drewN _).then kp5 (fun i hi _ e => by omega), ?_⟩
        rw [HRS.out]
      | some x =>
        rw [hrs] at hr2
        dsimp only at hr2
        obtain ⟨VA, LA, DA, vc, lc, dc, rfl, hsx⟩ := hr2
        have hg := (readSnapP_some hrs).1
        obtain ⟨vn, hvn⟩ : ∃ vn, x.V.length = vn := ⟨_, rfl⟩
        obtain ⟨ln, hln⟩ : ∃ ln, x.L.length = ln := ⟨_, rfl⟩
        obtain ⟨dn, hdn⟩ : ∃ dn, x.data.length = dn := ⟨_, rfl⟩
        have hle : 9 * (vn + ln) + dn ≤ 1500000 := by
          obtain ⟨h1, h2, h3⟩ := goodSnap_lens hg
          omega
        rw [hvn, hln, hdn] at hsx ⊢
        obtain ⟨bb, hbb⟩ : ∃ bb, decide (wholeB x = xs) = bb := ⟨_, rfl⟩
        have HRS := hid (show joinP xs = if bb = true then some x else none by
          rw [joinP, HN.out, HJL.out]; dsimp only; rw [hrs]; dsimp only; rw [← hbb]; simp)
        have HBB := hid hbb; have HVN := hid hvn; have HLN := hid hln; have HDN := hid hdn; have HG := hid hg; have HSX := hid hsx
        clear hrs hvn hln hdn hbb hg hsx
        go_wp2_with fail
        have kb := Kp.al w2 (Obj.cells #[.int .i64 x.index, .int .i64 x.term, .slice VA vn vc, .slice LA ln lc, .slice DA dn dc] 27)
        have HB7 := hid (blk_alloc HB2.out (Obj.cells #[.int .i64 x.index, .int .i64 x.term, .slice VA vn vc, .slice LA ln lc, .slice DA dn dc] 27))
        have b7 := blk_new w2 (Obj.cells #[.int .i64 x.index, .int .i64 x.term, .slice VA vn vc, .slice LA ln lc, .slice DA dn dc] 27)
        obtain ⟨W7, hW7⟩ : ∃ W7, W7 = w2.alloc (Obj.cells #[.int .i64 x.index, .int .i64 x.term, .slice VA vn vc, .slice LA ln lc, .slice DA dn dc] 27) := ⟨_, rfl⟩
        rw [← hW7] at HB7 b7 kb ⊢
        have c7 := blk_cell b7
        have B7 := hid b7; have KB := hid kb; have K7 := hid (HKK.out.trans kb)
        have HS7 := hid (HSX.out.snp.step kb)
        have HKD := hid (show Kp All W7 W7.drew from (Kp.refl _ _).drew)
        have hcv : ∀ u, Kp All w1 u → (convert 25 9 (.slice A a c)).run Tryz.prog u = .ok (.string (strOfB xs)) u := fun u hu => run_conv_row (foot_rb HN.out (H.out u hu))
        have HCV := hid hcv
        have c8 := hcv _ K7.out.drew
        clear b7 kb hW7 hcv
        cases bb with
        | false =>
          have hne : ¬ wholeB x = xs := of_decide_eq_false HBB.out
          have n2 : (wholeB x == xs) = false := beq_eq_false_iff_ne.2 hne
          have n3 : (wholeB x == (strOfB xs).toList) = false := by rw [show (strOfB xs).toList = xs by rw [ByteArray.toList_eq]; simp [strOfB]]; exact n2
          clear hne
          refine wp_region_held_drew (S := (fun w' => (∀ i, w'.cell? ⟨w2.heap.size, i, none⟩ = (#[.int .i64 x.index, .int .i64 x.term, .slice VA vn vc, .slice LA ln lc, .slice DA dn dc] : Array Value)[i]?) ∧ (convert 25 9 (.slice A a c)).run Tryz.prog w' = .ok (.string (strOfB xs)) w')) (by kernel_rfl) ⟨fun i => c7 i, c8⟩ (fun hHeld => ?_)
          (refine wpAnyH_take (i := 0) (oi := _) (v := ?_) (by (simp only [List.getElem?_toArray, List.getElem?_cons_succ, List.getElem?_cons_zero]); rfl) (by kernel_rfl) (by kernel_rfl) (by kernel_rfl) (by exact fun _ _ _ h => h) (Or.inl ⟨by rfl, ?_⟩) (by assumption) ?_; rotate_left; focus ((intro w hSw; (try dsimp only at hSw); go_simp) <;> with_reducible rfl); (try simp only [Act.put, List.getElem_toArray, List.getElem_cons_succ, List.getElem_cons_zero, List.setIfInBounds_toArray, List.set_cons_zero, List.set_cons_succ]))
          (refine wpAnyH_take (i := 1) (oi := _) (v := ?_) (by (simp only [List.getElem?_toArray, List.getElem?_cons_succ, List.getElem?_cons_zero]); rfl) (by kernel_rfl) (by kernel_rfl) (by kernel_rfl) (by exact fun _ _ _ h => h) (Or.inl ⟨by rfl, ?_⟩) (by assumption) ?_; rotate_left; focus ((intro w hSw; (try dsimp only at hSw); go_simp) <;> with_reducible rfl); (try simp only [Act.put, List.getElem_toArray, List.getElem_cons_succ, List.getElem_cons_zero, List.setIfInBounds_toArray, List.set_cons_zero, List.set_cons_succ]))
          (refine wpAnyH_take (i := 2) (oi := _) (v := ?_) (by (simp only [List.getElem?_toArray, List.getElem?_cons_succ, List.getElem?_cons_zero]); rfl) (by kernel_rfl) (by kernel_rfl) (by kernel_rfl) (by exact fun _ _ _ h => h) (Or.inl ⟨by rfl, ?_⟩) (by assumption) ?_; rotate_left; focus ((intro w hSw; (try dsimp only at hSw); go_simp) <;> with_reducible rfl); (try simp only [Act.put, List.getElem_toArray, List.getElem_cons_succ, List.getElem_cons_zero, List.setIfInBounds_toArray, List.set_cons_zero, List.set_cons_succ]))
          (refine wpAnyH_take (i := 3) (oi := _) (v := ?_) (by (simp only [List.getElem?_toArray, List.getElem?_cons_succ, List.getElem?_cons_zero]); rfl) (by kernel_rfl) (by kernel_rfl) (by kernel_rfl) (by exact fun _ _ _ h => h) (Or.inl ⟨by rfl, ?_⟩) (by assumption) ?_; rotate_left; focus ((intro w hSw; (try dsimp only at hSw); go_simp) <;> with_reducible rfl); (try simp only [Act.put, List.getElem_toArray, List.getElem_cons_succ, List.getElem_cons_zero, List.setIfInBounds_toArray, List.set_cons_zero, List.set_cons_succ]))
          (refine wpAnyH_take (i := 6) (oi := _) (v := ?_) (by (simp only [List.getElem?_toArray, List.getElem?_cons_succ, List.getElem?_cons_zero]); rfl) (by kernel_rfl) (by kernel_rfl) (by kernel_rfl) (by exact fun _ _ _ h => h) (Or.inl ⟨by rfl, ?_⟩) (by assumption) ?_; rotate_left; focus ((intro w hSw; (try dsimp only at hSw); go_simp) <;> with_reducible rfl); (try simp only [Act.put, List.getElem_toArray, List.getElem_cons_succ, List.getElem_cons_zero, List.setIfInBounds_toArray, List.set_cons_zero, List.set_cons_succ]))
          (refine wpAnyH_take (i := 7) (oi := _) (v := ?_) (by (simp only [List.getElem?_toArray, List.getElem?_cons_succ, List.getElem?_cons_zero]); rfl) (by kernel_rfl) (by kernel_rfl) (by kernel_rfl) (by exact fun _ _ _ h => h) (Or.inl ⟨by rfl, ?_⟩) (by assumption) ?_; rotate_left; focus ((intro w hSw; (try dsimp only at hSw); go_simp) <;> with_reducible rfl); (try simp only [Act.put, List.getElem_toArray, List.getElem_cons_succ, List.getElem_cons_zero, List.setIfInBounds_toArray, List.set_cons_zero, List.set_cons_succ]))
          refine wpAnyH_ready (rs := [4]) (by kernel_rfl) (by simp) ?_
          refine AllReadyH.cons rfl ?_ AllReadyH.nil
          intro KQ hKQ
          go_simp
          refine (rwhole_any x VA LA DA vn vc ln lc dn dc HG.out hle _ (HS7.out.step HKD.out)).mono ?_
          rintro e w10 ⟨⟨v10, rfl, ho10⟩, hk10⟩
          obtain ⟨A10, d10, rfl⟩ := own_shape ho10
          have c10 := run_conv_row (own_rb ho10)
          have HL10 := hid (K7.out.drew.trans hk10); have HM10 := hid ((KB.out.drew).trans hk10); have HB10 := hid (hk10.heap HB7.out trivial); have HS10 := hid (hk10.heap B7.out trivial)
          clear hk10 ho10
          refine hKQ.out _ _ ⟨fun i => blk_cell HS10.out i, HCV.out _ HL10.out⟩ (fun hHeld2 => ?_)
          clear hKQ KQ
          (try simp only [Act.put, List.setIfInBounds_toArray, List.set_cons_zero, List.set_cons_succ])
          refine wpAnyH_ready (rs := [5]) (by kernel_rfl) (by simp) ?_
          refine AllReadyH.cons rfl ?_ AllReadyH.nil
          intro KQ hKQ
          go_simp
          refine hKQ.out _ _ ⟨fun i => blk_cell HS10.out i, HCV.out _ HL10.out⟩ (fun hHeld3 => ?_)
          clear hKQ KQ
          (try simp only [Act.put, List.setIfInBounds_toArray, List.set_cons_zero, List.set_cons_succ])
          (refine wpAnyH_take (i := 8) (oi := _) (v := ?_) (by (simp only [List.getElem?_toArray, List.getElem?_cons_succ, List.getElem?_cons_zero]); rfl) (by kernel_rfl) (by kernel_rfl) (by kernel_rfl) (by exact fun _ _ _ h => h) (Or.inl ⟨by rfl, ?_⟩) (by assumption) ?_; rotate_left; focus ((intro w hSw; (try dsimp only at hSw); go_simp) <;> with_reducible rfl); (try simp only [Act.put, List.getElem_toArray, List.getElem_cons_succ, List.getElem_cons_zero, List.setIfInBounds_toArray, List.set_cons_zero, List.set_cons_succ]))
          (refine wpAnyH_take (i := 9) (oi := _) (v := ?_) (by (simp only [List.getElem?_toArray, List.getElem?_cons_succ, List.getElem?_cons_zero]); rfl) (by kernel_rfl) (by kernel_rfl) (by kernel_rfl) (by exact fun _ _ _ h => h) (Or.inl ⟨by rfl, ?_⟩) (by assumption) ?_; rotate_left; focus ((intro w hSw; (try dsimp only at hSw); go_simp) <;> with_reducible rfl); (try simp only [Act.put, List.getElem_toArray, List.getElem_cons_succ, List.getElem_cons_zero, List.setIfInBounds_toArray, List.set_cons_zero, List.set_cons_succ]))
          refine wpAnyH_done (by kernel_rfl) ?_ _
          have c11 := blk_cell HB10.out; have f11 := blk_free HB10.out
          go_wp2_with fail
          have cF := blk_cell (set5 (v0 := .int .i64 0) (v1 := .int .i64 0) (v2 := .slice none 0 0) (v3 := .slice none 0 0) (v4 := .slice none 0 0) HB10.out)
          refine bodyPost_ret (v := .tuple #[.agg #[.int .i64 0, .int .i64 0, .slice none 0 0, .slice none 0 0, .slice none 0 0], .int .i64 8]) (by simp [results, Tryz.results13, go_sem, cF]) rfl ⟨(K1.out.trans HL10.out).then kp5 (fun i hi _ e => by omega), ?_⟩
          rw [HRS.out, if_neg (by simp)]
        | true =>
          have n2 : (wholeB x == xs) = true := by rw [of_decide_eq_true HBB.out]; simp
          have n3 : (wholeB x == (strOfB xs).toList) = true := by rw [show (strOfB xs).toList = xs by rw [ByteArray.toList_eq]; simp [strOfB]]; exact n2
          refine wp_region_held_drew (S := (fun w' => (∀ i, w'.cell? ⟨w2.heap.size, i, none⟩ = (#[.int .i64 x.index, .int .i64 x.term, .slice VA vn vc, .slice LA ln lc, .slice DA dn dc] : Array Value)[i]?) ∧ (convert 25 9 (.slice A a c)).run Tryz.prog w' = .ok (.string (strOfB xs)) w')) (by kernel_rfl) ⟨fun i => c7 i, c8⟩ (fun hHeld => ?_)
          (refine wpAnyH_take (i := 0) (oi := _) (v := ?_) (by (simp only [List.getElem?_toArray, List.getElem?_cons_succ, List.getElem?_cons_zero]); rfl) (by kernel_rfl) (by kernel_rfl) (by kernel_rfl) (by exact fun _ _ _ h => h) (Or.inl ⟨by rfl, ?_⟩) (by assumption) ?_; rotate_left; focus ((intro w hSw; (try dsimp only at hSw); go_simp) <;> with_reducible rfl); (try simp only [Act.put, List.getElem_toArray, List.getElem_cons_succ, List.getElem_cons_zero, List.setIfInBounds_toArray, List.set_cons_zero, List.set_cons_succ]))
          (refine wpAnyH_take (i := 1) (oi := _) (v := ?_) (by (simp only [List.getElem?_toArray, List.getElem?_cons_succ, List.getElem?_cons_zero]); rfl) (by kernel_rfl) (by kernel_rfl) (by kernel_rfl) (by exact fun _ _ _ h => h) (Or.inl ⟨by rfl, ?_⟩) (by assumption) ?_; rotate_left; focus ((intro w hSw; (try dsimp only at hSw); go_simp) <;> with_reducible rfl); (try simp only [Act.put, List.getElem_toArray, List.getElem_cons_succ, List.getElem_cons_zero, List.setIfInBounds_toArray, List.set_cons_zero, List.set_cons_succ]))
          (refine wpAnyH_take (i := 2) (oi := _) (v := ?_) (by (simp only [List.getElem?_toArray, List.getElem?_cons_succ, List.getElem?_cons_zero]); rfl) (by kernel_rfl) (by kernel_rfl) (by kernel_rfl) (by exact fun _ _ _ h => h) (Or.inl ⟨by rfl, ?_⟩) (by assumption) ?_; rotate_left; focus ((intro w hSw; (try dsimp only at hSw); go_simp) <;> with_reducible rfl); (try simp only [Act.put, List.getElem_toArray, List.getElem_cons_succ, List.getElem_cons_zero, List.setIfInBounds_toArray, List.set_cons_zero, List.set_cons_succ]))
          (refine wpAnyH_take (i := 3) (oi := _) (v := ?_) (by (simp only [List.getElem?_toArray, List.getElem?_cons_succ, List.getElem?_cons_zero]); rfl) (by kernel_rfl) (by kernel_rfl) (by kernel_rfl) (by exact fun _ _ _ h => h) (Or.inl ⟨by rfl, ?_⟩) (by assumption) ?_; rotate_left; focus ((intro w hSw; (try dsimp only at hSw); go_simp) <;> with_reducible rfl); (try simp only [Act.put, List.getElem_toArray, List.getElem_cons_succ, List.getElem_cons_zero, List.setIfInBounds_toArray, List.set_cons_zero, List.set_cons_succ]))
          (refine wpAnyH_take (i := 6) (oi := _) (v := ?_) (by (simp only [List.getElem?_toArray, List.getElem?_cons_succ, List.getElem?_cons_zero]); rfl) (by kernel_rfl) (by kernel_rfl) (by kernel_rfl) (by exact fun _ _ _ h => h) (Or.inl ⟨by rfl, ?_⟩) (by assumption) ?_; rotate_left; focus ((intro w hSw; (try dsimp only at hSw); go_simp) <;> with_reducible rfl); (try simp only [Act.put, List.getElem_toArray, List.getElem_cons_succ, List.getElem_cons_zero, List.setIfInBounds_toArray, List.set_cons_zero, List.set_cons_succ]))
          (refine wpAnyH_take (i := 7) (oi := _) (v := ?_) (by (simp only [List.getElem?_toArray, List.getElem?_cons_succ, List.getElem?_cons_zero]); rfl) (by kernel_rfl) (by kernel_rfl) (by kernel_rfl) (by exact fun _ _ _ h => h) (Or.inl ⟨by rfl, ?_⟩) (by assumption) ?_; rotate_left; focus ((intro w hSw; (try dsimp only at hSw); go_simp) <;> with_reducible rfl); (try simp only [Act.put, List.getElem_toArray, List.getElem_cons_succ, List.getElem_cons_zero, List.setIfInBounds_toArray, List.set_cons_zero, List.set_cons_succ]))
          refine wpAnyH_ready (rs := [4]) (by kernel_rfl) (by simp) ?_
          refine AllReadyH.cons rfl ?_ AllReadyH.nil
          intro KQ hKQ
          go_simp
          refine (rwhole_any x VA LA DA vn vc ln lc dn dc HG.out hle _ (HS7.out.step HKD.out)).mono ?_
          rintro e w10 ⟨⟨v10, rfl, ho10⟩, hk10⟩
          obtain ⟨A10, d10, rfl⟩ := own_shape ho10
          have c10 := run_conv_row (own_rb ho10)
          have HL10 := hid (K7.out.drew.trans hk10); have HM10 := hid ((KB.out.drew).trans hk10); have HB10 := hid (hk10.heap HB7.out trivial); have HS10 := hid (hk10.heap B7.out trivial)
          clear hk10 ho10
          refine hKQ.out _ _ ⟨fun i => blk_cell HS10.out i, HCV.out _ HL10.out⟩ (fun hHeld2 => ?_)
          clear hKQ KQ
          (try simp only [Act.put, List.setIfInBounds_toArray, List.set_cons_zero, List.set_cons_succ])
          refine wpAnyH_ready (rs := [5]) (by kernel_rfl) (by simp) ?_
          refine AllReadyH.cons rfl ?_ AllReadyH.nil
          intro KQ hKQ
          go_simp
          refine hKQ.out _ _ ⟨fun i => blk_cell HS10.out i, HCV.out _ HL10.out⟩ (fun hHeld3 => ?_)
          clear hKQ KQ
          (try simp only [Act.put, List.setIfInBounds_toArray, List.set_cons_zero, List.set_cons_succ])
          (refine wpAnyH_take (i := 8) (oi := _) (v := ?_) (by (simp only [List.getElem?_toArray, List.getElem?_cons_succ, List.getElem?_cons_zero]); rfl) (by kernel_rfl) (by kernel_rfl) (by kernel_rfl) (by exact fun _ _ _ h => h) (Or.inl ⟨by rfl, ?_⟩) (by assumption) ?_; rotate_left; focus ((intro w hSw; (try dsimp only at hSw); go_simp) <;> with_reducible rfl); (try simp only [Act.put, List.getElem_toArray, List.getElem_cons_succ, List.getElem_cons_zero, List.setIfInBounds_toArray, List.set_cons_zero, List.set_cons_succ]))
          (refine wpAnyH_take (i := 9) (oi := _) (v := ?_) (by (simp only [List.getElem?_toArray, List.getElem?_cons_succ, List.getElem?_cons_zero]); rfl) (by kernel_rfl) (by kernel_rfl) (by kernel_rfl) (by exact fun _ _ _ h => h) (Or.inl ⟨by rfl, ?_⟩) (by assumption) ?_; rotate_left; focus ((intro w hSw; (try dsimp only at hSw); go_simp) <;> with_reducible rfl); (try simp only [Act.put, List.getElem_toArray, List.getElem_cons_succ, List.getElem_cons_zero, List.setIfInBounds_toArray, List.set_cons_zero, List.set_cons_succ]))
          refine wpAnyH_done (by kernel_rfl) ?_ _
          have c11 := blk_cell HB10.out; have f11 := blk_free HB10.out
          have s11 := blk_cell HS10.out
          go_wp2_with fail
          have cF := blk_cell (set5 (v0 := .int .i64 x.index) (v1 := .int .i64 x.term) (v2 := .slice VA vn vc) (v3 := .slice LA ln lc) (v4 := .slice DA dn dc) HB10.out)
          refine bodyPost_ret (v := .tuple #[.agg #[.int .i64 x.index, .int .i64 x.term, .slice VA vn vc, .slice LA ln lc, .slice DA dn dc], .int .i64 0]) (by simp [results, Tryz.results13, go_sem, cF]) rfl ⟨(K1.out.trans HL10.out).then kp5 (fun i hi _ e => by omega), ?_⟩
          rw [HRS.out]
          simp only [if_true]
          rw [HVN.out, HLN.out, HDN.out]
          refine ⟨VA, LA, DA, vc, lc, dc, rfl, ?_⟩
          have h9 := HSX.out.step HM10.out.all
          have hz := HWS.out
          have hz1 := Z1.out
          exact (h9.mono (T := fun i => w.heap.size < i) (fun i hi => by show w.heap.size < i; omega)).step ((kp5 (w := w10) (b := w.heap.size)).mono fun i _ hi => by show i ≠ w.heap.size; omega)
end Go.Proofs.YtbkhademplgicaaGreatDoor

namespace Go.Proofs.YtbkhademplgicaaGreatDoor
open Go.RowKit
set_option linter.unusedVariables false
set_option linter.unusedSimpArgs false
theorem rsame_self (A B : Option Addr) (n c m d : Nat) (xs : By) (hx : xs.length = n) (hy : xs.length = m) (w : World) (h1 : Sl A n c 1 (u8s xs) w) (h2 : Sl B m d 1 (u8s xs) w) :
    Calls Tryz.prog 11 #[.slice A n c, .slice B m d] w fun e w' => e = .returned (.bool true) ∧ w = w' := by
  have h := rsame_any A B n c m d xs xs hx hy w h1 h2
  rwa [decide_eq_true rfl] at h
def joinY (xs : By) : Sn := (joinP xs).getD Sn.z
def joinE (xs : By) : Int := match joinP xs with
  | some _ => 0
  | none => 8
theorem joinR_u {xs : By} {w w' : World} {e : Ending} {y : Sn} {er : Int} (h : JoinR xs w e w') (hy : joinY xs = y) (he : joinE xs = er) : ∃ VA LA DA vn vc ln lc dn dc, e = .returned (.tuple #[.agg #[.int .i64 y.index, .int .i64 y.term, .slice VA vn vc, .slice LA ln lc, .slice DA dn dc], .int .i64 er]) ∧ Snp y VA LA DA vn vc ln lc dn dc w' ∧ (vn ≤ 1000 ∧ ln ≤ 1000) ∧ Kp All w w' := by
  obtain ⟨hk, h⟩ := h
  unfold joinY at hy
  unfold joinE at he
  cases hj : joinP xs with
  | none =>
    rw [hj] at h hy he
    dsimp only [Option.getD] at h hy he
    subst hy he
    refine ⟨none, none, none, 0, 0, 0, 0, 0, 0, h, ⟨⟨fun u _ => ⟨rfl, Nat.le_refl _, fun h => absurd h (by simp)⟩, fun u _ => ⟨rfl, Nat.le_refl _, fun h => absurd h (by simp)⟩, rfl, rfl, (by intro z hz; cases hz), (by intro z hz; cases hz)⟩, fun u _ => ⟨rfl, Nat.le_refl _, fun h => absurd h (by simp)⟩, rfl, by decide, by decide⟩, by omega, hk⟩
  | some x =>
    rw [hj] at h hy he
    dsimp only [Option.getD] at h hy he
    subst hy he
    obtain ⟨VA, LA, DA, vc, lc, dc, rfl, hs⟩ := h
    have hl : x.V.length ≤ 9 ∧ x.L.length ≤ 9 := by
      have h1 : goodSnap x = true := by
        unfold joinP at hj
        split at hj
        · cases hj
        · next d hd =>
          cases hr : readSnapP d with
          | none => rw [hr] at hj; cases hj
          | some z =>
            rw [hr] at hj
            dsimp only at hj
            split at hj
            · injection hj with hj
              subst hj
              exact (readSnapP_some hr).1
            · cases hj
      obtain ⟨h2, h3, _⟩ := goodSnap_lens h1
      exact ⟨h2, h3⟩
    exact ⟨VA, LA, DA, x.V.length, vc, x.L.length, lc, x.data.length, dc, rfl, hs.snp, ⟨by omega, by omega⟩, hk⟩
def chL (x : Sn) : List By := if goodSnap x = true then chunksB x else []
theorem chp_col {w w' : World} {x : Sn} {e : Ending} (h : ChP w x e w') : ColP w (chL x) e w' := by
  unfold ChP at h
  unfold chL
  split at h
  · next hg => rw [if_pos hg]; exact h
  · next hg =>
    rw [if_neg hg]
    obtain ⟨rfl, hk⟩ := h
    exact ⟨_, [], rfl, World.ownsRow_nil _ _ _ _, ⟨rfl, fun i y l h1 _ => by cases h1⟩, hk⟩
theorem chL_len (x : Sn) : (chL x).length ≤ 1000 := by
  unfold chL
  split
  · next hg => exact (chunks_lens hg).1
  · exact Nat.zero_le _
set_option maxRecDepth 100000 in
set_option maxHeartbeats 2000000 in
theorem snapChunks_any (x : Sn) (VA LA DA : Option Addr) (vn vc ln lc dn dc : Nat) (hl : vn ≤ 1000000000000000 ∧ ln ≤ 1000000000000000) (BA : Option Addr) (bn bc : Nat) (bs : By) (hbn : bs.length = bn) (nn : Int) (h0 : -9223372036854775808 ≤ nn) (h1 : nn ≤ 9223372036854775807) (S : Nm) (w : World) (hg : Gl w) (hs : Snp x VA LA DA vn vc ln lc dn dc w) (hb : Foot All (Sl BA bn bc 1 (u8s bs)) w) :
    Calls Tryz.prog 3 #[.agg #[.int .i64 x.index, .int .i64 x.term, .slice VA vn vc, .slice LA ln lc, .slice DA dn dc], .slice BA bn bc, .agg #[.int .i64 nn, .string S]] w (Boo true w) := by
  have kb : Kp All w ((w.alloc (.cells #[.int .i64 x.index, .int .i64 x.term, .slice VA vn vc, .slice LA ln lc, .slice DA dn dc] 27)).alloc (.cells #[.int .i64 nn, .string S] 29)) := (Kp.al _ _).alloc _
  have b1 : ((w.alloc (.cells #[.int .i64 x.index, .int .i64 x.term, .slice VA vn vc, .slice LA ln lc, .slice DA dn dc] 27)).alloc (.cells #[.int .i64 nn, .string S] 29)).heap[w.heap.size]? = some (.cells #[.int .i64 x.index, .int .i64 x.term, .slice VA vn vc, .slice LA ln lc, .slice DA dn dc] 27) := blk_alloc (blk_new w (.cells #[.int .i64 x.index, .int .i64 x.term, .slice VA vn vc, .slice LA ln lc, .slice DA dn dc] 27)) _
  have b2 : ((w.alloc (.cells #[.int .i64 x.index, .int .i64 x.term, .slice VA vn vc, .slice LA ln lc, .slice DA dn dc] 27)).alloc (.cells #[.int .i64 nn, .string S] 29)).heap[w.heap.size + 1]? = some (.cells #[.int .i64 nn, .string S] 29) := by
    have h := blk_new (w.alloc (.cells #[.int .i64 x.index, .int .i64 x.term, .slice VA vn vc, .slice LA ln lc, .slice DA dn dc] 27)) (.cells #[.int .i64 nn, .string S] 29)
    rwa [World.size_alloc] at h
  obtain ⟨W, hW⟩ : ∃ W, W = (w.alloc (.cells #[.int .i64 x.index, .int .i64 x.term, .slice VA vn vc, .slice LA ln lc, .slice DA dn dc] 27)).alloc (.cells #[.int .i64 nn, .string S] 29) := ⟨_, rfl⟩
  rw [← hW] at kb b1 b2
  have HW := hid hW; have KB := hid kb; have B1 := hid b1; have B2 := hid b2; have HS := hid (hs.step kb); have HB := hid (hb.step kb); have HG := hid (hg.all kb)
  have HBN := hid hbn; have HN0 := hid h0; have HN1 := hid h1
  have c1 := blk_cell b1; have c2 := blk_cell b2
  have HGR := hid (great_any x.index x.term VA LA DA vn vc ln lc dn dc hl W)
  clear hW kb b1 b2 hs hb hg hbn h0 h1
  by_cases hgt : greatB vn ln dn = true ∨ 20000 < bn ∨ 5000 < S.size
  · cases hgr : greatB vn ln dn with
    | true =>
      rw [hgr] at HGR
      clear hgt hgr
      go_enter Tryz.func3, Tryz.ntmps3
      go_wp2_with fail
      rw [← HW.out]
      refine HGR.out.mono ?_
      rintro e w2 ⟨rfl, hk2⟩
      have HK2 := hid hk2
      clear hk2
      go_wp2_with fail
      refine (lives12_any w2 (HG.out.all HK2.out)).mono ?_
      rintro e w3 ⟨rfl, hk3⟩
      have HK3 := hid (KB.out.trans (HK2.out.trans hk3))
      clear hk3
      go_wp2_with fail
      go_ret
      exact ⟨rfl, HK3.out⟩
    | false =>
    rw [hgr] at HGR hgt
    by_cases hb1 : 20000 < bn
    · have d1 : decide ((20000 : Int) < (bn : Int)) = true := decide_eq_true (by omega)
      clear hgt hgr
      go_enter Tryz.func3, Tryz.ntmps3
      go_wp2_with fail
      rw [← HW.out]
      refine HGR.out.mono ?_
      rintro e w2 ⟨rfl, hk2⟩
      have HK2 := hid hk2
      clear hk2
      go_wp2_with fail
      refine (lives12_any w2 (HG.out.all HK2.out)).mono ?_
      rintro e w3 ⟨rfl, hk3⟩
      have HK3 := hid (KB.out.trans (HK2.out.trans hk3))
      clear hk3
      go_wp2_with fail
      go_ret
      exact ⟨rfl, HK3.out⟩
    · have hb2 : 5000 < S.size := by simpa [hb1] using hgt
      have d1 : decide ((20000 : Int) < (bn : Int)) = false := decide_eq_false (by omega)
      have d2 : decide ((5000 : Int) < (S.size : Int)) = true := decide_eq_true (by omega)
      clear hgt hgr
      go_enter Tryz.func3, Tryz.ntmps3
      go_wp2_with fail
      rw [← HW.out]
      refine HGR.out.mono ?_
      rintro e w2 ⟨rfl, hk2⟩
      have HK2 := hid hk2
      have c3 := blk_cell (hk2.heap B2.out trivial)
      clear hk2
      go_wp2_with fail
      refine (lives12_any w2 (HG.out.all HK2.out)).mono ?_
      rintro e w3 ⟨rfl, hk3⟩
      have HK3 := hid (KB.out.trans (HK2.out.trans hk3))
      clear hk3
      go_wp2_with fail
      go_ret
      exact ⟨rfl, HK3.out⟩
  have hgr : greatB vn ln dn = false := by
    cases h : greatB vn ln dn with
    | true => exact absurd (Or.inl h) hgt
    | false => rfl
  have hb1 : ¬ 20000 < bn := fun h => hgt (Or.inr (Or.inl h))
  have hb2 : ¬ 5000 < S.size := fun h => hgt (Or.inr (Or.inr h))
  have d1 : decide ((20000 : Int) < (bn : Int)) = false := decide_eq_false (by omega)
  have d2 : decide ((5000 : Int) < (S.size : Int)) = false := decide_eq_false (by omega)
  obtain ⟨hdn, hvl⟩ := greatB_no hgr
  rw [hgr] at HGR
  clear hgr hgt
  go_enter Tryz.func3, Tryz.ntmps3
  go_wp2_with fail
  rw [← HW.out]
  refine HGR.out.mono ?_
  rintro e w2 ⟨rfl, hk2⟩
  have HK2 := hid hk2
  have HB2 := hid (hk2.heap B2.out trivial); have HB1 := hid (hk2.heap B1.out trivial)
  have c3 := blk_cell HB2.out; have c4 := blk_cell HB1.out
  clear hk2
  go_wp2_with fail
  have HS2 := hid (HS.out.step HK2.out.drew)
  have HK2D := hid HK2.out.drew
  have hle : 9 * (vn + ln) + dn ≤ 1500000 := by omega
  have c5 := blk_cell (HK2.out.drew.heap B1.out trivial)
  go_region_held3 (fun w' => ∀ i, w'.cell? ⟨w.heap.size, i, none⟩ = (#[.int .i64 x.index, .int .i64 x.term, .slice VA vn vc, .slice LA ln lc, .slice DA dn dc] : Array Value)[i]?) (first | exact blk_cell HB8.out | exact blk_cell HB7.out | exact c5) (first | (go_at_call 10; have h7 := HB7.out; clear h7; refine (rchunks_any x VA LA DA vn vc ln lc dn dc hle _ (HS.out.step HK7.out)).mono ?_; intro e w8 hch; obtain ⟨v8, hs8, rfl, ho8, hf8, hk8⟩ := chp_col hch; have HO8 := hid ho8; have HF8 := hid hf8; have HO78 := hid (own_kept HO7.out hk8 (fun _ _ => trivial)); have HF78 := hid (HF7.out.keepA hk8); have HK8 := hid (HK7.out.trans hk8); have HB8 := hid (hk8.heap HB7.out trivial); clear hch ho8 hf8 hk8) | (go_at_call 9; refine (chunks_any x VA LA DA vn vc ln lc dn dc hle _ HS2.out).mono ?_; intro e w7 hch; obtain ⟨v7, hs7, rfl, ho7, hf7, hk7⟩ := chp_col hch; have HO7 := hid ho7; have HF7 := hid hf7; have HK7 := hid (HK2D.out.trans hk7); have HB7 := hid (hk7.heap (HK2D.out.heap B1.out trivial) trivial); clear hch ho7 hf7 hk7))
  obtain ⟨q, hq⟩ : ∃ q, (chL x).length = q := ⟨_, rfl⟩
  have hq7 : hs7.length = q := by rw [← hq]; exact HF7.out.1
  have hq8 : hs8.length = q := by rw [← hq]; exact HF8.out.1
  have hqm : q ≤ 1000 := by rw [← hq]; exact chL_len x
  obtain ⟨A7, c7, rfl⟩ := own_shape HO78.out
  obtain ⟨A8, c8, rfl⟩ := own_shape HO8.out
  have HC7 := hid (own_footA HO78.out); have HC8 := hid (own_footA HO8.out)
  have HQ7 := hid hq7; have HQ8 := hid hq8; have HQ := hid hq
  rw [hq7] at HC7 ⊢
  rw [hq8] at HC8 ⊢
  clear hq7 hq8 hq
  have c6 := blk_cell HB8.out
  have HBX := hid (HK8.out.heap B2.out trivial)
  have c9 := blk_cell HBX.out
  go_wp2_with fail
  go_loopw [43] (fun i wr => ∃ j : Nat, j ≤ q ∧ i = .int .i64 j ∧ Hid (Kp All w8 wr)) (fun i _ => q - (intOf i).toNat)
  case atStart => exact ⟨0, Nat.zero_le _, rfl, hid (Kp.refl _ _)⟩
  case round =>
    obtain ⟨j, hj, rfl, hK⟩ := hrel
    by_cases hlt2 : j < q
    · have hb3 : decide ((j : Int) < (q : Int)) = true := decide_eq_true (by omega)
      obtain ⟨l, hy⟩ : ∃ l, (chL x)[j]? = some l := ⟨_, List.getElem?_eq_getElem (by rw [HQ.out]; exact hlt2)⟩
      obtain ⟨⟨x1, x2, x3⟩, hx⟩ : ∃ y, hs7[j]? = some y := ⟨_, List.getElem?_eq_getElem (by rw [HQ7.out]; exact hlt2)⟩
      obtain ⟨⟨y1, y2, y3⟩, hx'⟩ : ∃ y, hs8[j]? = some y := ⟨_, List.getElem?_eq_getElem (by rw [HQ8.out]; exact hlt2)⟩
      obtain ⟨b7, o7, eA, hrd⟩ := (HC7.out _ hK.out).2.2 (by omega)
      subst eA
      have hcell := hrd j _ (by rw [List.getElem?_map, hx]; rfl)
      rw [hdV] at hcell
      dsimp only at hcell
      obtain ⟨b8, o8, eB, hrd'⟩ := (HC8.out _ hK.out).2.2 (by omega)
      subst eB
      have hcell' := hrd' j _ (by rw [List.getElem?_map, hx']; rfl)
      rw [hdV] at hcell'
      dsimp only at hcell'
      have hyo := (HF78.out.keepA hK.out).2 j _ l hx hy
      have hyo' := (HF8.out.keepA hK.out).2 j _ l hx' hy
      rw [hdV] at hyo hyo'
      dsimp only at hyo hyo'
      have hx2 : l.length = x2 := by
        obtain ⟨A', c', e⟩ := own_shape hyo
        injection e with _ e _
        exact e.symm
      have hy2 : l.length = y2 := by
        obtain ⟨A', c', e⟩ := own_shape hyo'
        injection e with _ e _
        exact e.symm
      rw [hx2] at hyo
      rw [hy2] at hyo'
      have HSA := hid (own_footA hyo).now; have HSB := hid (own_footA hyo').now
      have HX2 := hid hx2; have HY2 := hid hy2
      clear hx2 hy2 hyo hyo' hx hx' hy hrd hrd'
      have i0 : (0 : Int) ≤ (j : Int) := by omega
      have i1 : (j : Int) < (q : Int) := by omega
      go_wp2_with fail
      go_region_held3 (fun w' => w'.cell? ⟨b7, o7 + j, none⟩ = some (.slice x1 x2 x3) ∧ w'.cell? ⟨b8, o8 + j, none⟩ = some (.slice y1 y2 y3)) (exact ⟨hcell, hcell'⟩) (first | (go_at_call 11; refine (rsame_self _ _ _ _ _ _ l HX2.out HY2.out _ (by exact HSA.out) (by exact HSB.out)).mono ?_; rintro e w' ⟨rfl, rfl⟩))
      go_wp2_with fail
      exact ⟨⟨j + 1, by omega, by go_num, hid (hK.out.drew)⟩, by simp [intOf]; omega⟩
    · have hb3 : decide ((j : Int) < (q : Int)) = false := decide_eq_false (by omega)
      have HK9 := hid (HK8.out.trans hK.out)
      have HBX9 := hid (hK.out.heap HBX.out trivial)
      have c10 := blk_cell HBX9.out
      go_wp2_with fail
      obtain ⟨y, hy⟩ : ∃ y, joinY bs = y := ⟨_, rfl⟩
      obtain ⟨er, her⟩ : ∃ er, joinE bs = er := ⟨_, rfl⟩
      have HY := hid hy; have HER := hid her
      clear hy her
      refine (join_any BA bn bc bs HBN.out (by omega) wr (HB.out.step HK9.out)).mono ?_
      intro e w10 hj10
      obtain ⟨VB, LB, DB, vm, vd, lm, ld, dm, dd, rfl, hs10, hl10, hk10⟩ := joinR_u hj10 HY.out HER.out
      have HK10 := hid (HK9.out.trans hk10); have HS10 := hid hs10; have HBX10 := hid (hk10.heap HBX9.out trivial); have HL10 := hid hl10
      have d10 := blk_cell HBX10.out
      clear hj10 hs10 hk10 hl10
      go_wp2_with fail
      have k11 := Kp.al w10 (.cells #[.int .i64 y.index, .int .i64 y.term, .slice VB vm vd, .slice LB lm ld, .slice DB dm dd] 27)
      have b11 := blk_new w10 (.cells #[.int .i64 y.index, .int .i64 y.term, .slice VB vm vd, .slice LB lm ld, .slice DB dm dd] 27)
      obtain ⟨w11, hw11⟩ : ∃ w11, w11 = w10.alloc (.cells #[.int .i64 y.index, .int .i64 y.term, .slice VB vm vd, .slice LB lm ld, .slice DB dm dd] 27) := ⟨_, rfl⟩
      rw [← hw11] at k11 b11 ⊢
      have HK11 := hid (HK10.out.trans k11); have HS11 := hid (HS10.out.step k11); have HBX11 := hid (k11.heap HBX10.out trivial); have HP11 := hid b11
      clear hw11 k11 b11
      refine (rjoin_any BA bn bc bs HBN.out (by omega) w11 (HB.out.step HK11.out)).mono ?_
      intro e w12 hj12
      obtain ⟨VD, LD, DD, vq, vr, lq, lr, dq, dr, rfl, hs12, hl12, hk12⟩ := joinR_u hj12 HY.out HER.out
      have k13 := Kp.al w12 (.cells #[.int .i64 y.index, .int .i64 y.term, .slice VD vq vr, .slice LD lq lr, .slice DD dq dr] 27)
      have b13 := blk_new w12 (.cells #[.int .i64 y.index, .int .i64 y.term, .slice VD vq vr, .slice LD lq lr, .slice DD dq dr] 27)
      have HK13 := hid (HK11.out.trans (hk12.trans k13)); have HS13 := hid (HS11.out.step (hk12.trans k13)); have HT13 := hid (hs12.step k13); have HBX13 := hid ((hk12.trans k13).heap HBX11.out trivial); have HP13 := hid ((hk12.trans k13).heap HP11.out trivial); have HQ13 := hid b13
      clear hj12 hs12 hk12 hl12 k13 b13
      have d13 := blk_cell HBX13.out
      go_wp2_with fail
      refine (index_any S _ (HG.out.all HK13.out)).mono ?_
      rintro e w14 ⟨rfl, hk14⟩
      obtain ⟨si, hsi⟩ : ∃ si, (snIndex S).1 = si := ⟨_, rfl⟩
      obtain ⟨sb, hsb⟩ : ∃ sb, (snIndex S).2 = sb := ⟨_, rfl⟩
      rw [hsi, hsb]
      have HSI := hid hsi; have HSB := hid hsb
      have HK14 := hid (HK13.out.trans hk14); have HS14 := hid (HS13.out.step hk14); have HT14 := hid (HT13.out.step hk14); have HBX14 := hid (hk14.heap HBX13.out trivial); have HP14 := hid (hk14.heap HP13.out trivial); have HQ14 := hid (hk14.heap HQ13.out trivial)
      clear hk14 hsi hsb
      have d14 := blk_cell HBX14.out
      go_wp2_with fail
      refine (rindex_any S (by omega) _).mono ?_
      rw [HSI.out, HSB.out]
      rintro e w15 ⟨rfl, hk15⟩
      have HK15 := hid (HK14.out.trans hk15); have HS15 := hid (HS14.out.step hk15); have HT15 := hid (HT14.out.step hk15); have HBX15 := hid (hk15.heap HBX14.out trivial); have HP15 := hid (hk15.heap HP14.out trivial); have HQ15 := hid (hk15.heap HQ14.out trivial)
      clear hk15
      have d15 := blk_cell HBX15.out; have p15 := blk_cell HP15.out; have q15 := blk_cell HQ15.out
      have HSS := hid (rsamesnap_any y y VB LB DB VD LD DD vm vd lm ld dm dd vq vr lq lr dq dr (by have := HL10.out; omega) _ (HS15.out.step (Kp.refl _ _).drew) (HT15.out.step (Kp.refl _ _).drew))
      rw [sameB_refl] at HSS
      have HK15D := hid HK15.out.drew
      go_wp2_with fail
      have HX15 := hid HBX15.out
      go_region_held3 (fun w' => (∀ i, w'.cell? ⟨w10.heap.size, i, none⟩ = (#[.int .i64 y.index, .int .i64 y.term, .slice VB vm vd, .slice LB lm ld, .slice DB dm dd] : Array Value)[i]?) ∧ (∀ i, w'.cell? ⟨w12.heap.size, i, none⟩ = (#[.int .i64 y.index, .int .i64 y.term, .slice VD vq vr, .slice LD lq lr, .slice DD dq dr] : Array Value)[i]?) ∧ (∀ i, w'.cell? ⟨w.heap.size + 1, i, none⟩ = (#[.int .i64 nn, .string S] : Array Value)[i]?)) (first | exact ⟨blk_cell HP19.out, blk_cell HQ19.out, blk_cell HX19.out⟩ | exact ⟨blk_cell HP18.out, blk_cell HQ18.out, blk_cell HX18.out⟩ | exact ⟨blk_cell HP17.out, blk_cell HQ17.out, blk_cell HX17.out⟩ | exact ⟨blk_cell HP16.out, blk_cell HQ16.out, blk_cell HX16.out⟩ | exact ⟨p15, q15, d15⟩) (first | (go_at_call 8; have h18 := HK18.out; clear h18; refine (lives12_any _ (HG.out.all HK18.out)).mono ?_; rintro e w19 ⟨rfl, hk19⟩; have HK19 := hid (HK18.out.trans hk19); have HP19 := hid (hk19.heap HP18.out trivial); have HQ19 := hid (hk19.heap HQ18.out trivial); have HX19 := hid (hk19.heap HX18.out trivial); clear hk19) | (go_at_call 18; have h17 := HK17.out; clear h17; refine (rname_any nn HN0.out HN1.out _).mono ?_; rintro e w18 ⟨rfl, hk18⟩; have HK18 := hid (HK17.out.trans hk18); have HP18 := hid (hk18.heap HP17.out trivial); have HQ18 := hid (hk18.heap HQ17.out trivial); have HX18 := hid (hk18.heap HX17.out trivial); clear hk18) | (go_at_call 17; have h16 := HK16.out; clear h16; refine (name_any nn HN0.out HN1.out _ (HG.out.all HK16.out)).mono ?_; rintro e w17 ⟨rfl, hk17⟩; have HK17 := hid (HK16.out.trans hk17); have HP17 := hid (hk17.heap HP16.out trivial); have HQ17 := hid (hk17.heap HQ16.out trivial); have HX17 := hid (hk17.heap HX16.out trivial); clear hk17) | (go_at_call 16; refine HSS.out.mono ?_; rintro e w16 ⟨rfl, hk16⟩; have HK16 := hid (HK15D.out.trans hk16); have HP16 := hid (hk16.heap HP15.out trivial); have HQ16 := hid (hk16.heap HQ15.out trivial); have HX16 := hid (hk16.heap HX15.out trivial); clear hk16))
      go_wp2_with fail
      go_ret
      exact ⟨rfl, KB.out.trans HK19.out⟩
end Go.Proofs.YtbkhademplgicaaGreatDoor
