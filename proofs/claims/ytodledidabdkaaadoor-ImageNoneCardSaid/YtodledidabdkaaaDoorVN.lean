/- The map's find walked. No condition but that the map lies, and that the numbers are of their kinds. -/
import Derived.Test.YtodledidabdkaaaDoorVM
import Derived.Scope
import Derived.Test.YtodledidabdkaaaDoorVQ
namespace Go.Proofs.YtodledidabdkaaaDoor
open Go.RowKit Go.Shelf V
set_option linter.unusedVariables false
set_option linter.unusedSimpArgs false
attribute [local go_sem] Oper.semAt_some
set_option maxRecDepth 100000 in
set_option maxHeartbeats 4000000 in
theorem find_any (k0 k1 bm bw cw bs cs : Nat) (M : Mp) (hP : Pm M) (h0 : k0 < 18446744073709551616) (h1 : k1 < 18446744073709551616) (key : ByteArray) (hkey : key.size ≤ 9000000000000000000) (w : World) (h : Ms k0 k1 bm bw cw bs cs M w) :
    Calls Tryd.prog 34 #[.pointer (some ⟨bm, 0, none⟩), .string key] w fun e w' => e = .returned (.int .i64 (optV (findP (sipP k0 k1) M key))) ∧ Kp All w w' := by
  refine (callsIn_wide (n := 6)).1 ?_
  have hsip := sip_lt h0 h1 key
  have HM := hid h; have HP := hid hP
  have hc0 := blk_cell h.str
  refine callsIn_of_wp_marks Tryd.func34 rfl trivial ?_ rfl
  simp only [Tryd.ntmps34, List.size_toArray, List.length_cons, List.length_nil, Nat.reduceAdd, Nat.reduceSub, Array.replicate_succ, Array.replicate_zero, List.push_toArray, List.append_toArray, List.nil_append, List.cons_append]
  refine wpIn_wide.2 ?_
  go_wp2_with fail
  have b2 := blk_new w (.cells #[.pointer (some ⟨bm, 0, none⟩)] 24)
  have b3 := blk_new (w.alloc (.cells #[.pointer (some ⟨bm, 0, none⟩)] 24)) (.cells #[.string key] 9)
  have b2 := blk_alloc b2 (.cells #[.string key] 9)
  rw [World.size_alloc] at b3
  have HK0 := hid ((Kp.al w (.cells #[.pointer (some ⟨bm, 0, none⟩)] 24)).trans (Kp.al _ (.cells #[.string key] 9)))
  obtain ⟨W1, hW1⟩ : ∃ W1, (w.alloc (.cells #[.pointer (some ⟨bm, 0, none⟩)] 24)).alloc (.cells #[.string key] 9) = W1 := ⟨_, rfl⟩
  have hsz1 : W1.heap.size = w.heap.size + 2 := by rw [← hW1]; simp
  rw [hW1] at b2 b3 HK0 ⊢
  clear hW1
  have HM1 := hid (HM.out.all HK0.out)
  have hc1 := blk_cell HM1.out.str
  have c2 := blk_cell b2
  have c3 := blk_cell b3
  have HB2 := hid b2; have HB3 := hid b3
  clear hc0 h b2 b3
  obtain ⟨X, hX⟩ : ∃ X, sipP k0 k1 key = X := ⟨_, rfl⟩
  rw [hX] at hsip
  have HX := hid hX
  clear hX
  refine wp_scope_straight ?_
  refine wp_seq ?_
  refine wp_onN (fun a' w' => ∃ b, Hid (w'.heap[b]? = some (.cells #[.int .u8 ((X : Int) % 128)] 5 (0, 0)) ∧ W1.heap.size ≤ b) ∧ Hid (Kp All W1 w') ∧ a' = { tmps := #[.pointer (some ⟨bm, 0, none⟩), .string key, .pointer (some ⟨w.heap.size, 0, none⟩), .pointer (some ⟨w.heap.size + 1, 0, none⟩), .int .i64 0, .int .u64 ((X : Int) / 128), .pointer (some ⟨b, 0, none⟩), undef, undef, undef, undef, .tuple #[.int .u64 ((X : Int) / 128), .int .u8 ((X : Int) % 128)], .pointer (some ⟨bm, 0, none⟩), .pointer (some ⟨bm, 0, none⟩), .pointer (some ⟨bm, 0, none⟩), .agg #[.int .u64 k0, .int .u64 k1], .string key, .int .u64 X, .tuple #[.int .u64 ((X : Int) / 128), .int .u8 ((X : Int) % 128)], .int .u64 ((X : Int) / 128), .int .u8 ((X : Int) % 128), undef, undef, undef, undef, undef, undef, undef, undef, undef, undef, undef, undef, undef, undef, undef, undef, undef, undef, undef, undef, undef, undef, undef, undef, undef, undef, undef, undef, undef, undef, undef, undef, undef, undef, undef, undef, undef, undef, undef, undef, undef, undef, undef, undef, undef, undef, undef], defers := [] }) ?_ ?_
  · have hmk : ∀ w', Kp All W1 w' → (∀ i, w'.cell? ⟨bm, i, none⟩ = (#[.int .u64 k0, .int .u64 k1, .slice (some ⟨bw, 0, none⟩) M.g cw, .slice (some ⟨bs, 0, none⟩) (8 * M.g) cs, .int .i64 M.cnt, .int .i64 M.tmb] : Array Value)[i]?) ∧ (∀ i, w'.cell? ⟨w.heap.size, i, none⟩ = (#[.pointer (some ⟨bm, 0, none⟩)] : Array Value)[i]?) ∧ (∀ i, w'.cell? ⟨w.heap.size + 1, i, none⟩ = (#[.string key] : Array Value)[i]?) ∧ Kp All W1 w' := fun w' k => ⟨blk_cell (k.heap HM1.out.str trivial), blk_cell (k.heap HB2.out trivial), blk_cell (k.heap HB3.out trivial), k⟩
    have HMK := hid hmk
    clear hmk
    go_region_held3 (fun w' => (∀ i, w'.cell? ⟨bm, i, none⟩ = (#[.int .u64 k0, .int .u64 k1, .slice (some ⟨bw, 0, none⟩) M.g cw, .slice (some ⟨bs, 0, none⟩) (8 * M.g) cs, .int .i64 M.cnt, .int .i64 M.tmb] : Array Value)[i]?) ∧ (∀ i, w'.cell? ⟨w.heap.size, i, none⟩ = (#[.pointer (some ⟨bm, 0, none⟩)] : Array Value)[i]?) ∧ (∀ i, w'.cell? ⟨w.heap.size + 1, i, none⟩ = (#[.string key] : Array Value)[i]?) ∧ Kp All W1 w') (first | assumption | exact HMK.out _ (Kp.refl _ _).drew | (refine HMK.out _ ?_; first | exact HKS.out | exact HKS.out.alloc _ | exact HKS.out.setNew (Nat.le_of_eq hsz1) _ | exact (by assumption : _ ∧ _ ∧ _ ∧ Kp All W1 _).2.2.2.alloc _ | (refine (by assumption : _ ∧ _ ∧ _ ∧ Kp All W1 _).2.2.2.setNew ?_ _; simp only [World.size_alloc, World.size_drew]; omega))) (first | (go_at_call 54; refine (split_any X hsip _).mono ?_; rintro e w' ⟨rfl, rfl⟩) | (go_at_call 55; refine (sum_sip k0 k1 h0 h1 key hkey _).mono ?_; rintro e wS ⟨rfl, hkS⟩; rw [HX.out]; have HKS := hid ((by assumption : _ ∧ _ ∧ _ ∧ Kp All W1 _).2.2.2.trans hkS); have HKL := hid hkS; (try (have hbx : wS.heap[W1.heap.size]? = some (.cells #[.int .u8 0] 5 (0, 0)) := hkS.heap (blk_new W1.drew _) trivial; rw [hsz1] at hbx; have cbx := blk_cell hbx; have fbx := blk_free hbx; have HBX := hid hbx; clear hbx)); clear hkS))
    all_goals first | exact ⟨_, hid ⟨blk_new _ _, HKS.out.size⟩, hid (HKS.out.alloc _), rfl⟩ | exact ⟨w.heap.size + 2, hid ⟨blk_set HBX.out 0 _, Nat.le_of_eq hsz1⟩, hid (HKS.out.setNew (Nat.le_of_eq hsz1) _), rfl⟩
  rintro _ W2 ⟨b, HB, HK2, rfl⟩
  have HM2 := hid (HM1.out.all HK2.out)
  have hc2 := blk_cell HM2.out.str
  have c22 := blk_cell (HK2.out.heap HB2.out trivial)
  have c23 := blk_cell (HK2.out.heap HB3.out trivial)
  have c2b := blk_cell HB.out.1
  clear hc1 c2 c3 hsz1
  go_wp2_with fail
  have bat := blk_new W2 (.cells #[.int .i64 (-1)] 3)
  have kat := Kp.al W2 (.cells #[.int .i64 (-1)] 3)
  obtain ⟨W3, hW3⟩ : ∃ W3, W2.alloc (.cells #[.int .i64 (-1)] 3) = W3 := ⟨_, rfl⟩
  have hsz3 : W3.heap.size = W2.heap.size + 1 := by rw [← hW3]; simp
  rw [hW3] at bat kat ⊢
  clear hW3
  have HM3 := hid (HM2.out.all kat)
  have hc3 := blk_cell HM3.out.str
  have c32 := blk_cell (kat.heap (HK2.out.heap HB2.out trivial) trivial)
  have c33 := blk_cell (kat.heap (HK2.out.heap HB3.out trivial) trivial)
  have HBA := hid bat; have HKA := hid kat
  clear hc2 c22 c23 c2b bat kat
  refine wp_label ?_
  go_wp2_with (go_at_call 56; refine (seq_any _ _ _).mono ?_; rintro e w' ⟨rfl, rfl⟩)
  have bh := blk_new W3 (.cells #[.int .u64 ((X : Int) / 128)] 26)
  have bg := blk_new (W3.alloc (.cells #[.int .u64 ((X : Int) / 128)] 26)) (.cells #[.int .i64 M.g] 3)
  have bh := blk_alloc bh (.cells #[.int .i64 M.g] 3)
  rw [World.size_alloc] at bg
  have k5 := (Kp.al W3 (.cells #[.int .u64 ((X : Int) / 128)] 26)).trans (Kp.al _ (.cells #[.int .i64 M.g] 3))
  obtain ⟨W5, hW5⟩ : ∃ W5, (W3.alloc (.cells #[.int .u64 ((X : Int) / 128)] 26)).alloc (.cells #[.int .i64 M.g] 3) = W5 := ⟨_, rfl⟩
  have hsz5 : W5.heap.size = W2.heap.size + 3 := by rw [← hW5]; simp [hsz3]
  rw [hW5] at bg bh k5 ⊢
  rw [hsz3] at bg bh
  clear hW5
  have HM5 := hid (HM3.out.all k5)
  have HB25 := hid (k5.heap (HKA.out.heap (HK2.out.heap HB2.out trivial) trivial) trivial)
  have HB35 := hid (k5.heap (HKA.out.heap (HK2.out.heap HB3.out trivial) trivial) trivial)
  have HBb5 := hid (k5.heap (HKA.out.heap HB.out.1 trivial) trivial)
  have HBA5 := hid (k5.heap HBA.out trivial)
  have HK5 : Hid (Kp All w W5) := hid (HK0.out.trans (HK2.out.trans (HKA.out.trans k5)))
  clear hc3 c32 c33 k5 HKA HBA HM3 HM2 HM1
  have hx7 : X / 128 < 18446744073709551616 := by omega
  have hseq := seq_stops 4 (by omega) (X / 128) M.g (W2.heap.size + 1 + 1) (W2.heap.size + 1) HP.out.pow hx7 W5 bg (by simpa using bh)
  refine (wpIn_wide (n := 5)).1 ?_
  refine wpIn_rangeFunc_ownG rfl (by omega) (gf := 83) (lb := #[.pointer (some ⟨W2.heap.size + 1 + 1, 0, none⟩), .pointer (some ⟨W2.heap.size + 1, 0, none⟩)]) rfl trivial (enters_of Tryd.func83 (by kernel_rfl) rfl)
    (encs := fun x : Fin M.g => #[.int .i64 x.val]) (Kp := Kc) hseq Kc.trans (fun W l o o' _ h hc _ => Kc.putObj h hc) (Below.refl _ _) (fun _ => rfl)
    (fun pre W => Kp All W5 W ∧ ∀ rest, findL M (X % 128) key (pre.map (·.val) ++ rest) = findL M (X % 128) key rest)
    (fun c pre W => c = .exit 0 ∧ ∃ r : Option Nat, W.heap[W2.heap.size]? = some (.cells #[.int .i64 (optV r)] 3 (0, 0)) ∧ Kp (fun k => k ≠ W2.heap.size) W5 W ∧ ∀ rest, findL M (X % 128) key (pre.map (·.val) ++ rest) = r)
    (fun s A B row h hg hr => ⟨h.1.then (Kp.grown hg) (fun i hi _ e => by have := (hr i e.symm).1; omega), h.2⟩)
    (fun c s A B row h hg hr => by
      obtain ⟨e, r, h1, h2, h3⟩ := h
      have hk : Kp (fun k => k < W5.heap.size) A B := (Kp.grown hg).mono (fun i hi hlt e => by have := (hr i e.symm).1; omega)
      exact ⟨e, r, hk.heap h1 (by omega), h2.then hk (fun i hi _ => hi), h3⟩)
    ⟨Kp.refl _ _, fun _ => rfl⟩
    (fun x => { tmps := #[.pointer (some ⟨bm, 0, none⟩), .string key, .pointer (some ⟨w.heap.size, 0, none⟩), .pointer (some ⟨w.heap.size + 1, 0, none⟩), .int .i64 0, .int .u64 ((X : Int) / 128), .pointer (some ⟨b, 0, none⟩), .pointer (some ⟨W2.heap.size, 0, none⟩), .int .i64 x.val, undef, undef, .tuple #[.int .u64 ((X : Int) / 128), .int .u8 ((X : Int) % 128)], .pointer (some ⟨bm, 0, none⟩), .pointer (some ⟨bm, 0, none⟩), .pointer (some ⟨bm, 0, none⟩), .agg #[.int .u64 k0, .int .u64 k1], .string key, .int .u64 X, .tuple #[.int .u64 ((X : Int) / 128), .int .u8 ((X : Int) % 128)], .int .u64 ((X : Int) / 128), .int .u8 ((X : Int) % 128), .int .u64 ((X : Int) / 128), .pointer (some ⟨bm, 0, none⟩), .pointer (some ⟨bm, 0, none⟩), .pointer (some ⟨bm, 2, none⟩), .slice (some ⟨bw, 0, none⟩) M.g cw, .int .i64 M.g, .func (.func 83) #[] #[.pointer (some ⟨W2.heap.size + 1 + 1, 0, none⟩), .pointer (some ⟨W2.heap.size + 1, 0, none⟩)], .int .i64 x.val, undef, undef, undef, undef, undef, undef, undef, undef, undef, undef, undef, undef, undef, undef, undef, undef, undef, undef, undef, undef, undef, undef, undef, undef, undef, undef, undef, undef, undef, undef, undef, undef, undef, undef, undef, undef, undef, undef, undef], defers := [] }) ?assign ?body ?done ?stop
  case assign =>
    intro l x W K hK
    gi_wp2
    exact hK
  case body =>
    rintro l pre x W ⟨hK, hF⟩ hlt
    have hMW := HM5.out.all hK
    have hxg := x.isLt
    have hcm := blk_cell hMW.str
    have cw2 := blk_cell (hK.heap HB25.out trivial)
    have cw3 := blk_cell (hK.heap HB35.out trivial)
    have cwb := blk_cell (hK.heap HBb5.out trivial)
    have hwd := hMW.word rfl hxg
    obtain ⟨q, hq⟩ : ∃ q, x.val = q := ⟨_, rfl⟩
    rw [hq] at hwd hxg
    simp only [hq]
    have HQ := hid hq
    clear hq
    have hg1 := HP.out.g1
    have j0 : (0 : Int) ≤ (q : Int) := by omega
    have j1 : (q : Int) < (M.g : Int) := by omega
    have j2 : (M.g : Int) ≤ 1024 := by omega
    have hMt : ∀ k w, CallsIn Fence.wide k Tryd.prog 57 #[.int .u64 (wd (grp M.ctrl q)), .int .u8 ((X : Int) % 128)] w fun e w' => e = .returned (.int .u8 (bitsOf (fun b => b == X % 128) (grp M.ctrl q))) ∧ w' = w := fun k w => by
      have := match_any (grp M.ctrl q) (HP.out.gb q) (HP.out.g8 hxg) (X % 128) (by omega) w
      rw [show ((X % 128 : Nat) : Int) = (X : Int) % 128 from by omega] at this
      exact callsIn_wide.2 this
    have hEt : ∀ k w, CallsIn (Fence.wide.inRound l) k Tryd.prog 37 #[.int .u64 (wd (grp M.ctrl q))] w fun e w' => e = .returned (.int .u8 (bitsOf (fun b => b == 128) (grp M.ctrl q))) ∧ w' = w := fun k w => CallsIn.inRound l (callsIn_wide.2 (empties_any (grp M.ctrl q) (HP.out.gb q) (HP.out.g8 hxg) w))
    have hS0 := bits_lt (fun b => b == X % 128) (grp M.ctrl q)
    have hE0 := bits_lt (fun b => b == 128) (grp M.ctrl q)
    rw [HP.out.g8 hxg] at hS0 hE0
    have hhit : Hid (hitAt M (X % 128) key q = (els (bitsOf (fun b => b == X % 128) (grp M.ctrl q))).find? fun i => decide ((M.slots.getD (8 * q + i) zslot).1 = key)) := hid rfl
    have hfl : Hid (∀ rest, findL M (X % 128) key (q :: rest) = match hitAt M (X % 128) key q with
      | some i => some (8 * q + i)
      | none => if bitsOf (fun b => b == 128) (grp M.ctrl q) = 0 then findL M (X % 128) key rest else none) := hid fun rest => rfl
    obtain ⟨S0, hS⟩ : ∃ S0, bitsOf (fun b => b == X % 128) (grp M.ctrl q) = S0 := ⟨_, rfl⟩
    obtain ⟨E0, hE⟩ : ∃ E0, bitsOf (fun b => b == 128) (grp M.ctrl q) = E0 := ⟨_, rfl⟩
    obtain ⟨wq, hwq⟩ : ∃ wq, wd (grp M.ctrl q) = wq := ⟨_, rfl⟩
    rw [hS] at hMt hS0 hhit
    rw [hE] at hEt hE0 hfl
    rw [hwq] at hMt hEt hwd
    clear hS hE hwq
    have HMt := hid hMt; have HEt := hid hEt; have HK := hid hK; have HF := hid hF; have HMW := hid hMW
    have hf1 : Fence.wide.fn 57 := trivial
    have hf2 : Fence.wide.fn 37 := trivial
    have hf3 : Fence.wide.fn 59 := trivial
    have hf4 : Fence.wide.fn 58 := trivial
    have hsz5' := hsz5
    clear hMt hEt hK hF hMW
    gi_wp2
    refine wpIn_region_quietR (F := Fence.wide) (by kernel_rfl) (by kernel_rfl) (by kernel_rfl) ?_
    repeat (quiet_step_in ((gi_at_call 57; refine CallsIn.quiet_of_same (HMt.out _ _))))
    refine wpQuietIn_nil ?_
    intro _ hw'
    obtain ⟨nq, hw''⟩ := hw'
    subst hw''
    clear HMt
    gi_wp2
    gi_loopw [9] (fun v wr => ∃ st : Nat, v = .int .u8 st ∧ st < 256 ∧ Hid (((els st).find? fun i => decide ((M.slots.getD (8 * q + i) zslot).1 = key)) = hitAt M (X % 128) key q) ∧ Kp All W wr)
      (fun v _ => (els (ivl v).toNat).length)
    case atStart => exact ⟨S0, rfl, hS0, hid hhit.out.symm, (Kp.refl _ _).drewN _⟩
    case round =>
      obtain ⟨st, rfl, hst, hfd, hkr⟩ := hrel
      have hMR := HMW.out.all hkr
      have hcr := blk_cell hMR.str
      have cr2 := blk_cell ((HK.out.trans hkr).heap HB25.out trivial)
      have cr3 := blk_cell ((HK.out.trans hkr).heap HB35.out trivial)
      have crb := blk_cell ((HK.out.trans hkr).heap HBb5.out trivial)
      have hra := (HK.out.trans hkr).heap HBA5.out trivial
      have cra := blk_cell hra
      have fra := blk_free hra
      have HRA := hid hra
      have hwr := hkr.cell hwd trivial
      have HKR := hid hkr
      clear hra hkr
      by_cases hz : st = 0
      · subst hz
        have d1 : ((0 : Int) != 0) = false := rfl
        have hno : hitAt M (X % 128) key q = none := by rw [← hfd.out, els_zero]; rfl
        clear hfd hst
        by_cases hE : E0 = 0
        · have d2 : ((E0 : Int) != 0) = false := by rw [hE]; rfl
          have hfin : Hid (∀ rest, findL M (X % 128) key ((pre ++ [x]).map (·.val) ++ rest) = findL M (X % 128) key rest) := hid fun rest => by
            rw [List.map_append, List.append_assoc]
            show findL M (X % 128) key (pre.map (·.val) ++ (x.val :: rest)) = _
            rw [HF.out, HQ.out, hfl.out, hno, if_pos hE]
          clear hfl HF hno
          gi_wp2_with (gi_at_call 37; refine (HEt.out _ _).mono ?_; rintro e w1 ⟨rfl, rfl⟩)
          exact ⟨kf_of HKR.out, Kc.of HKR.out, HK.out.trans HKR.out, hfin.out⟩
        · have d2 : ((E0 : Int) != 0) = true := by simp; omega
          have hfin : Hid (∀ rest, findL M (X % 128) key ((pre ++ [x]).map (·.val) ++ rest) = none) := hid fun rest => by
            rw [List.map_append, List.append_assoc]
            show findL M (X % 128) key (pre.map (·.val) ++ (x.val :: rest)) = _
            rw [HF.out, HQ.out, hfl.out, hno, if_neg hE]
          clear hfl HF hno
          gi_wp2_with (gi_at_call 37; refine (HEt.out _ _).mono ?_; rintro e w1 ⟨rfl, rfl⟩)
          exact ⟨kf_of HKR.out, rfl, none, HRA.out, (HK.out.trans HKR.out).all, hfin.out⟩
      · obtain ⟨i, hi, hi8⟩ := els_next ⟨st, hst⟩ hz
        simp only at hi
        have d1 : ((st : Int) != 0) = true := by simp; omega
        have hjg : 8 * q + i < 8 * M.g := by omega
        obtain ⟨hs1, _⟩ := hMR.slot HP.out.slen hjg
        have hF1 : ∀ k w, CallsIn (Fence.wide.inRound l) k Tryd.prog 59 #[.int .u8 st] w fun e w' => e = .returned (.int .i64 i) ∧ w' = w := fun k w => CallsIn.inRound l (callsIn_wide.2 (first_any st i _ hst hi w))
        have hN1 : ∀ k w, CallsIn (Fence.wide.inRound l) k Tryd.prog 58 #[.int .u8 st] w fun e w' => ∃ s', e = .returned (.int .u8 (s' : Nat)) ∧ s' < 256 ∧ els s' = els (st &&& (st - 1)) ∧ w' = w := fun k w => CallsIn.inRound l (callsIn_wide.2 (next_any st i _ hst hi w))
        have HF1 := hid hF1; have HN1 := hid hN1
        have HI := hid hi
        obtain ⟨j, hj⟩ : ∃ j, 8 * q + i = j := ⟨_, rfl⟩
        have hjI : 8 * (q : Int) + (i : Int) = (j : Int) := by omega
        rw [hj] at hs1 hjg
        have HJ := hid hj
        have g0 : (0 : Int) ≤ (j : Int) := by omega
        have g1 : (j : Int) < 8 * (M.g : Int) := by omega
        obtain ⟨kk, hkk⟩ : ∃ kk, (M.slots.getD j zslot).1 = kk := ⟨_, rfl⟩
        rw [hkk] at hs1
        have HKK := hid hkk
        have HH := hid hfl; have HFD := hid hfd
        clear hF1 hN1 hi hj hkk hfl hfd
        by_cases hkey2 : kk = key
        · have e1 : (kk.toList == key.toList) = true := by rw [hkey2]; simp
          gi_wp2_with (gi_at_call 59; refine (HF1.out _ _).mono ?_; rintro e w1 ⟨rfl, rfl⟩)
          refine wpIn_region_quietR (F := Fence.wide) (by kernel_rfl) (by kernel_rfl) (by kernel_rfl) ?_
          repeat (quiet_step_in (fail))
          refine wpQuietIn_nil ?_
          intro _ hw'
          obtain ⟨nq, hw''⟩ := hw'
          subst hw''
          gi_wp2
          have hit : hitAt M (X % 128) key q = some i := by
            rw [← HFD.out, HI.out, List.find?_cons_of_pos]
            simp only [decide_eq_true_eq]
            rw [HJ.out, HKK.out, hkey2]
          have hfin : ∀ rest, findL M (X % 128) key ((pre ++ [x]).map (·.val) ++ rest) = some j := fun rest => by
            rw [List.map_append, List.append_assoc]
            show findL M (X % 128) key (pre.map (·.val) ++ (x.val :: rest)) = _
            rw [HF.out, HQ.out, HH.out, hit]
            simp only [HJ.out]
          have hkw : Kp (fun k => k ≠ W2.heap.size) W ((w1.drewN nq).setCell ⟨W2.heap.size, 0, none⟩ (.int .i64 (j : Nat))) := ((HKR.out.drewN nq).all).setOut (by simp) _
          exact ⟨kf_ne hkw (by omega), rfl, some j, blk_set (w := w1.drewN nq) HRA.out 0 _, (HK.out.all).trans hkw, hfin⟩
        · have e1 : (kk.toList == key.toList) = false := toList_ne hkey2
          gi_wp2_with (gi_at_call 59; refine (HF1.out _ _).mono ?_; rintro e w1 ⟨rfl, rfl⟩)
          refine wpIn_region_quietR (F := Fence.wide) (by kernel_rfl) (by kernel_rfl) (by kernel_rfl) ?_
          repeat (quiet_step_in (fail))
          refine wpQuietIn_nil ?_
          intro _ hw'
          obtain ⟨nq, hw''⟩ := hw'
          subst hw''
          gi_wp2_with (gi_at_call 58; refine (HN1.out _ _).mono ?_; rintro e w2 ⟨s', rfl, hs', he', rfl⟩; have HS' := hid he'; clear he')
          go_roundw
          case rel =>
            refine ⟨s', rfl, hs', hid ?_, HKR.out.drewN nq⟩
            rw [HS'.out, ← HFD.out, HI.out, List.find?_cons_of_neg]
            simp only [decide_eq_true_eq]
            rw [HJ.out, HKK.out]
            exact hkey2
          case measure =>
            simp only [ivl, Int.toNat_natCast]
            rw [HS'.out, HI.out]
            simp
  case done =>
    rintro D ys W hD hS ⟨hK, hF⟩ hDD
    have hfin : findP (sipP k0 k1) M key = none := by
      have := hF []
      rw [hS, List.append_nil] at this
      unfold findP
      rw [HX.out, this, findL]
    have hra := hK.heap HBA5.out trivial
    have cra := blk_cell hra
    have HKW := hid hK
    have HD := hid hDD
    clear hK hF hDD
    go_wp2_with fail
    refine ⟨by simp, .inl ⟨_, _, rfl, run_takeDeferred HD.out, ?_⟩⟩
    refine ⟨_, results_tmp rfl _ _ _, ?_, ?_⟩
    · rw [hfin]; rfl
    · exact (HK5.out.trans HKW.out).setHeap (fun h => by have := HK5.out.size; omega) _
  case stop =>
    rintro D c pre W hD hS ⟨rfl, r, h1, h2, h3⟩ hDD
    have hfin : findP (sipP k0 k1) M key = r := by
      obtain ⟨t, ht, hpre⟩ := hS
      have := h3 ((seqP (X / 128) M.g).drop (t + 1))
      rw [hpre, List.take_append_drop] at this
      unfold findP
      rw [HX.out, this]
    have cra := blk_cell h1
    have HKW := hid h2
    have HD := hid hDD
    clear h2 h3 hDD
    gi_wp2
    go_wp2_with fail
    refine ⟨by simp, .inl ⟨_, _, rfl, run_takeDeferred HD.out, ?_⟩⟩
    refine ⟨_, results_tmp rfl _ _ _, ?_, ?_⟩
    · rw [hfin]; rfl
    · have z0 := HK0.out.size
      have z2 := HK2.out.size
      exact (HK5.out.then HKW.out (fun i hi _ => by omega)).setHeap (fun h => by have := HK5.out.size; omega) _
end Go.Proofs.YtodledidabdkaaaDoor
