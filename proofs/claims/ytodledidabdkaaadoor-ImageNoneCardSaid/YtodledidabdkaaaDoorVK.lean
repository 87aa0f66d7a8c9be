/- SipHash's Sum walked. No condition but that the numbers are of their kinds. -/
import Derived.Test.YtodledidabdkaaaDoorVJ
namespace Go.Proofs.YtodledidabdkaaaDoor
open Go.RowKit V
set_option linter.unusedVariables false
set_option linter.unusedSimpArgs false
theorem ext_list (t : ByteArray) (a b : Nat) : (t.extract a b).data.toList = (t.data.toList.take b).drop a := by
  rw [ByteArray.data_extract, Array.toList_extract, List.extract_eq_take_drop, List.drop_take]
theorem ba_len (t : ByteArray) : t.data.toList.length = t.size := by rw [Array.length_toList]; rfl
theorem eq_arr4 (n : Nat) (a b c d a' b' c' d' : Int) (w : World) :
    (Op.equalIn (n + 2) 127 (.agg #[.int .u64 a, .int .u64 b, .int .u64 c, .int .u64 d]) (.agg #[.int .u64 a', .int .u64 b', .int .u64 c', .int .u64 d'])).run Tryd.prog w = .ok (a == a' && (b == b' && (c == c' && d == d'))) w := by
  rw [Op.equalIn]
  simp only [Sem.run_bind, run_underlying Tryd.underlying127, Result.andThen_ok, Tryd.sizeOf26, Std.Legacy.Range.forIn_eq_forIn_range', Std.Legacy.Range.size]
  rw [show List.range' 0 ((4 - 0 + 1 - 1) / 1) = [0, 1, 2, 3] from rfl]
  have he : ∀ x y : Int, (Op.equalIn (n + 1) 26 (.int .u64 x) (.int .u64 y)).run Tryd.prog w = .ok (x == y) w := fun x y => run_equalIn_int w n _ _ _ x y Tryd.underlying26
  have hp : ∀ (cs : Array Value) (i : Nat) (v : Value), cs[i]? = some v → (part 26 cs i).run Tryd.prog w = .ok v w := by
    intro cs i v h
    simp [part, Tryd.isAgg26, h]
  have h0 := fun x0 x1 x2 x3 : Value => hp #[x0, x1, x2, x3] 0 x0 rfl
  have h1 := fun x0 x1 x2 x3 : Value => hp #[x0, x1, x2, x3] 1 x1 rfl
  have h2 := fun x0 x1 x2 x3 : Value => hp #[x0, x1, x2, x3] 2 x2 rfl
  have h3 := fun x0 x1 x2 x3 : Value => hp #[x0, x1, x2, x3] 3 x3 rfl
  have e0 := he a a'
  have e1 := he b b'
  have e2 := he c c'
  have e3 := he d d'
  clear he hp
  generalize (a == a') = r0 at *
  generalize (b == b') = r1 at *
  generalize (c == c') = r2 at *
  generalize (d == d') = r3 at *
  cases r0 <;> cases r1 <;> cases r2 <;> cases r3 <;> simp [List.forIn_cons, List.forIn_nil, Sem.run_bind, h0, h1, h2, h3, e0, e1, e2, e3]
def strLen : Value → Nat
  | .string s => s.size
  | _ => 0
set_option maxRecDepth 100000 in
set_option maxHeartbeats 2000000 in
theorem sum_sip (k0 k1 : Nat) (h0 : k0 < 18446744073709551616) (h1 : k1 < 18446744073709551616) (s : ByteArray) (hs : s.size ≤ 9000000000000000000) (w : World) :
    Calls Tryd.prog 55 #[.agg #[.int .u64 k0, .int .u64 k1], .string s] w fun e w' => e = .returned (.int .u64 (sipP k0 k1 s)) ∧ Kp All w w' := by
  have hx : ∀ (k c : Nat), k < 18446744073709551616 → c < 18446744073709551616 → bits .xor .u64 (k : Int) (c : Int) = ((k ^^^ c : Nat) : Int) := fun k c a b => u64_xor_nat _ _ a b
  have x1 : bits .xor .u64 (k0 : Int) 8317987319222330741 = ((k0 ^^^ 8317987319222330741 : Nat) : Int) := hx _ _ h0 (by decide)
  have x2 : bits .xor .u64 (k1 : Int) 7237128888997146477 = ((k1 ^^^ 7237128888997146477 : Nat) : Int) := hx _ _ h1 (by decide)
  have x3 : bits .xor .u64 (k0 : Int) 7816392313619706465 = ((k0 ^^^ 7816392313619706465 : Nat) : Int) := hx _ _ h0 (by decide)
  have x4 : bits .xor .u64 (k1 : Int) 8387220255154660723 = ((k1 ^^^ 8387220255154660723 : Nat) : Int) := hx _ _ h1 (by decide)
  have hok := begin_ok h0 h1
  have HS : Hid (sipP k0 k1 s = endP (takeP (eatP (beginP k0 k1) s.data.toList).1 (lastM (eatP (beginP k0 k1) s.data.toList).2 s.size))) := hid (by
    unfold sipP
    rw [show s.data.toList.length = s.size from by rw [Array.length_toList]; rfl])
  have HO := hid hok
  obtain ⟨n, hN⟩ : ∃ n, s.size = n := ⟨_, rfl⟩
  rw [hN] at hs
  have HN := hid hN
  clear hx hok
  go_enter Tryd.func55, Tryd.ntmps55
  go_wp2_with fail
  clear x1 x2 x3 x4
  have hB := blk_new (w.alloc (.cells #[.int .u64 k0, .int .u64 k1] 28)) (.cells (vc (beginP k0 k1)) 127)
  rw [World.size_alloc] at hB
  unfold vc beginP at hB
  have HB := hid hB
  have HK := hid ((Kp.al w (.cells #[.int .u64 k0, .int .u64 k1] 28)).trans (Kp.al _ (.cells (vc (beginP k0 k1)) 127)))
  clear hB
  go_loopw [1] (fun x wr => ∃ (t : ByteArray) (v : V4), x = .string t ∧ t.size ≤ n ∧ Hid (eatP v t.data.toList = eatP (beginP k0 k1) s.data.toList) ∧ Hid v.ok ∧ Hid (wr.heap[w.heap.size + 1]? = some (.cells (vc v) 127 (0, 0))) ∧ Hid (Kp All w wr)) (fun x _ => strLen x)
  case atStart => exact ⟨s, beginP k0 k1, rfl, by omega, hid rfl, HO, HB, HK⟩
  case round =>
    obtain ⟨t, v, rfl, ht, hE, hV, hB, hK⟩ := hrel
    obtain ⟨m, hm⟩ : ∃ m, t.size = m := ⟨_, rfl⟩
    by_cases h8 : 8 ≤ m
    · have d0 : decide ((8 : Int) ≤ (m : Int)) = true := decide_eq_true (by omega)
      have hl8 : (t.extract 0 8).data.toList = t.data.toList.take 8 := by rw [ext_list]; rfl
      have HW := hid (fun w => word_any (t.extract 0 8) (by rw [hl8, List.length_take]; omega) w)
      rw [hl8] at HW
      have hwl := word_lt (l := t.data.toList.take 8) (by rw [List.length_take]; omega)
      have HT := hid (fun w' hB' => take_any v hV.out (wordP (t.data.toList.take 8)) hwl (w.heap.size + 1) w' hB')
      have hnext : eatP v t.data.toList = eatP (takeP v (wordP (t.data.toList.take 8))) (t.data.toList.drop 8) := by
        rw [eatP, dif_pos (by rw [ba_len]; omega)]
      have hOK := hid (take_ok hV.out hwl)
      have HE := hid (hnext.symm.trans hE.out)
      obtain ⟨x, hx⟩ : ∃ x, wordP (t.data.toList.take 8) = x := ⟨_, rfl⟩
      rw [hx] at HW HT hwl HE hOK
      have hml : (t.extract 8 m).data.toList = t.data.toList.drop 8 := by rw [ext_list, List.take_of_length_le (by rw [ba_len]; omega)]
      have HML := hid hml
      have hms : (t.extract 8 m).size = m - 8 := by rw [ByteArray.size_extract]; omega
      have HMS := hid hms
      clear hnext hx hl8 hml hms
      go_wp2_with fail
      refine (HW.out _).mono ?_
      rintro e w3 ⟨rfl, rfl⟩
      go_wp2_with fail
      refine (HT.out _ hB.out).mono ?_
      rintro e w4 ⟨rfl, hB4, hK4⟩
      have HB4 := hid hB4
      have HK4 := hid (hK.out.then hK4 (fun i hi _ => by omega))
      clear hB4 hK4
      go_wp2_with fail
      exact ⟨⟨_, _, rfl, by rw [HMS.out]; omega, hid (by rw [HML.out]; exact HE.out), hOK, HB4, HK4⟩, by simp only [strLen]; rw [HMS.out]; omega⟩
    · have d0 : decide ((8 : Int) ≤ (m : Int)) = false := decide_eq_false (by omega)
      have hnext : eatP v t.data.toList = (v, t.data.toList) := by
        rw [eatP, dif_neg (by rw [ba_len]; omega)]
      have HS2 : Hid (sipP k0 k1 s = endP (takeP v (lastM t.data.toList n))) := hid (by rw [HS.out, ← hE.out, hnext, HN.out])
      have htl : t.data.toList.length < 8 := by rw [ba_len]; omega
      have HW := hid (fun w => word_any t (by omega) w)
      have hwl := word_lt (l := t.data.toList) (by omega)
      have hll := last_lt (n := n) htl
      have HL : Hid (bits .or .u64 ((wordP t.data.toList : Nat) : Int) (IntKind.u64.wrap ((n : Int) * 72057594037927936)) = ((lastM t.data.toList n : Nat) : Int)) := hid (by
        rw [show ((n : Int) * 72057594037927936) = ((n * 72057594037927936 : Nat) : Int) from by omega, wrapn, u64_or_nat _ _ hwl (Nat.mod_lt _ (by decide))]
        rfl)
      have HT := hid (fun w' hB' => take_any v hV.out (lastM t.data.toList n) hll (w.heap.size + 1) w' hB')
      have hOK := hid (take_ok hV.out hll)
      obtain ⟨x, hx⟩ : ∃ x, wordP t.data.toList = x := ⟨_, rfl⟩
      obtain ⟨y, hy⟩ : ∃ y, lastM t.data.toList n = y := ⟨_, rfl⟩
      rw [hx] at HW hwl HL
      rw [hy] at HS2 HL HT hOK hll
      clear hnext hx hy htl hE
      go_wp2_with fail
      refine (HW.out _).mono ?_
      rintro e w3 ⟨rfl, rfl⟩
      go_wp2_with fail
      rw [HL.out]
      refine (HT.out _ hB.out).mono ?_
      rintro e w4 ⟨rfl, hB4, hK4⟩
      obtain ⟨⟨a, b, c, d⟩, hu⟩ : ∃ u, takeP v y = u := ⟨_, rfl⟩
      rw [hu] at hB4 HS2 hOK
      clear hu HT
      have q4 := blk_cell hB4
      have f4 := blk_free hB4
      have HB4 := hid hB4
      have HK4 := hid (hK.out.then hK4 (fun i hi _ => by omega))
      clear hB4 hK4
      have hcc := hOK.out.2.2.1
      have HX := hid (show bits .xor .u64 (c : Int) 255 = ((c ^^^ 255 : Nat) : Int) from u64_xor_nat c 255 hcc (by decide))
      unfold vc at q4
      simp only at q4
      go_wp2_with fail
      rw [HX.out]
      have hC : c ^^^ 255 < 18446744073709551616 := xor_lt64 hcc (by decide)
      obtain ⟨C, hCe⟩ : ∃ C, c ^^^ 255 = C := ⟨_, rfl⟩
      have HS3 : Hid (sipP k0 k1 s = (itR roundP 4 ⟨a, b, C, d⟩).a ^^^ (itR roundP 4 ⟨a, b, C, d⟩).b ^^^ (itR roundP 4 ⟨a, b, C, d⟩).c ^^^ (itR roundP 4 ⟨a, b, C, d⟩).d) := hid (by rw [HS2.out, ← hCe, endP])
      have hOK5 : Hid (V4.ok ⟨a, b, C, d⟩) := hid ⟨hOK.out.1, hOK.out.2.1, by rw [← hCe]; exact hC, hOK.out.2.2.2⟩
      rw [hCe]
      have HB5 := hid (blk_set HB4.out 2 (.int .u64 (C : Nat)))
      have HK5 := hid (HK4.out.setNew (b := w.heap.size + 1) (by simp) (i := 2) (.int .u64 (C : Nat)))
      clear HX hC hCe hOK HB4 HK4 HS2 q4 f4 hcc
      go_loopw [46] (fun i wr => ∃ (k : Nat) (v : V4), k ≤ 4 ∧ i = .int .i64 k ∧ Hid (itR roundP (4 - k) v = itR roundP 4 ⟨a, b, C, d⟩) ∧ Hid v.ok ∧ Hid (wr.heap[w.heap.size + 1]? = some (.cells (vc v) 127 (0, 0))) ∧ Hid (Kp All w wr)) (fun i _ => 4 - (intOf i).toNat)
      case atStart => exact ⟨0, _, Nat.zero_le _, rfl, hid rfl, hOK5, HB5, HK5⟩
      case round =>
        obtain ⟨k, v, hk, rfl, hE, hV, hB, hK⟩ := hrel
        by_cases h4 : k < 4
        · have d1 : decide ((k : Int) < 4) = true := decide_eq_true (by omega)
          have HR := hid (fun w => round_any v hV.out w)
          have hOK := hid (round_ok hV.out)
          have hE2 : Hid (itR roundP (4 - (k + 1)) (roundP v) = itR roundP 4 ⟨a, b, C, d⟩) := hid (by
            rw [← hE.out, show 4 - k = (4 - (k + 1)) + 1 from by omega, itR])
          obtain ⟨u, hu⟩ : ∃ u, roundP v = u := ⟨_, rfl⟩
          rw [hu] at HR hOK hE2
          clear hu hE
          have q1 := blk_cell hB.out
          obtain ⟨va, vb, vc', vd⟩ := v
          unfold vc at q1 HR
          simp only at q1 HR
          go_wp2_with fail
          refine (HR.out _).mono ?_
          rintro e w6 ⟨rfl, k6⟩
          have hB6 := k6.heap hB.out trivial
          have HK6 := hid (hK.out.trans k6)
          have q6 := blk_cell hB6
          have f6 := blk_free hB6
          have HB6 := hid hB6
          clear hB6 k6 q1
          obtain ⟨ua, ub, uc, ud⟩ := u
          unfold vc at q6
          simp only at q6
          go_wp2_with fail
          refine ⟨⟨k + 1, ⟨ua, ub, uc, ud⟩, by omega, by go_num, hE2, hOK, ?_, ?_⟩, by simp [intOf]; omega⟩
          · exact hid (blk_set (blk_set (blk_set (blk_set HB6.out 0 _) 1 _) 2 _) 3 _)
          · exact hid ((((HK6.out.setNew (by simp) _).setNew (by simp) _).setNew (by simp) _).setNew (by simp) _)
        · have d1 : decide ((k : Int) < 4) = false := decide_eq_false (by omega)
          obtain rfl : k = 4 := by omega
          have hve : v = itR roundP 4 ⟨a, b, C, d⟩ := hE.out
          rw [← hve] at HS3
          have q1 := blk_cell hB.out
          clear hve hE
          obtain ⟨va, vb, vc', vd⟩ := v
          unfold vc at q1
          simp only at q1 HS3
          have heq := eq_arr4 9998 va vb vc' vd 0 0 0 0 wr
          have hx1 := u64_xor_nat va vb hV.out.1 hV.out.2.1
          have hx2 := u64_xor_nat (va ^^^ vb) vc' (xor_lt64 hV.out.1 hV.out.2.1) hV.out.2.2.1
          have hx3 := u64_xor_nat (va ^^^ vb ^^^ vc') vd (xor_lt64 (xor_lt64 hV.out.1 hV.out.2.1) hV.out.2.2.1) hV.out.2.2.2
          cases hr : ((va : Int) == 0 && ((vb : Int) == 0 && ((vc' : Int) == 0 && (vd : Int) == 0)))
          · rw [hr] at heq
            go_wp2_with fail
            go_ret
            refine ⟨congrArg (fun z => Ending.returned (.int .u64 z)) ?_, hK.out⟩
            rw [HS3.out]
          · rw [hr] at heq
            go_wp2_with fail
            go_ret
            refine ⟨congrArg (fun z => Ending.returned (.int .u64 z)) ?_, hK.out⟩
            simp only [Bool.and_eq_true, beq_iff_eq] at hr
            obtain ⟨r1, r2, r3, r4⟩ := hr
            rw [HS3.out, show va = 0 from by omega, show vb = 0 from by omega, show vc' = 0 from by omega, show vd = 0 from by omega]
            rfl
end Go.Proofs.YtodledidabdkaaaDoor
