/- The document's Bytes of pairs and of a reply: walked once each. No condition but that the numbers are ints, and the texts not great. -/
import Derived.Test.YtkipijdbkkcioaaCI
import Derived.Test.YtkipijdbkkcioaaCD
namespace Go.Proofs.Ytkipijdbkkcioaa
open Go.RowKit
set_option linter.unusedVariables false
set_option linter.unusedSimpArgs false
attribute [local irreducible] enc encText encBool encPairs zig beh tailb
set_option maxRecDepth 100000 in
set_option maxHeartbeats 4000000 in
theorem rpairs_any (ps : List (ByteArray × ByteArray)) (A : Option Addr) (c : Nat) (w : World) (h : Foot All (Ps A c ps) w) (hr : (enc ps.length ++ encPairs ps).length ≤ 140737488000000) (hnb : ps.length ≤ 1000000000000) :
    Calls Try.prog 56 #[.slice A ps.length c] w (OutB w (enc ps.length ++ encPairs ps)) := by
  have H := hid h
  obtain ⟨n, hn⟩ : ∃ n, ps.length = n := ⟨_, rfl⟩
  have HN := hid hn
  rw [hn] at hr hnb
  have HR := hid hr
  have HNB := hid hnb
  have hu : IntKind.u64.wrap (n : Int) = n := by rw [wrap64u]; omega
  clear h hr
  rw [hn]
  clear hn
  go_enter Try.func56, Try.ntmps56
  go_wp2_with fail
  refine (rput_any (.slice none 0 0) [] n (by omega) (by simp) _ (rb_nil _)).mono ?_
  rintro e w5 ⟨⟨v5, rfl, h5⟩, k5⟩
  have H5 := hid h5
  have HK05 := hid k5
  clear h5 k5
  go_wp2_with fail
  have hst : w5.ownsRow w.heap.size 5 1 v5 (enc n ++ encPairs (ps.take 0)).length (u8s (enc n ++ encPairs (ps.take 0))) := by
    have h := H5.out
    simp only [List.take_zero, encPairs, List.flatMap_nil, List.append_nil]
    exact h
  have HST := hid hst
  clear hu hst hnb
  go_loopw [3, 12] (fun x i wr => ∃ (k : Nat), k ≤ n ∧ i = .int .i64 k ∧ Hid (wr.ownsRow w.heap.size 5 1 x (enc n ++ encPairs (ps.take k)).length (u8s (enc n ++ encPairs (ps.take k)))) ∧ Hid (Kp All w wr)) (fun _ i _ => n - (intOf i).toNat)
  case atStart => exact ⟨0, Nat.zero_le _, rfl, HST, HK05⟩
  case round =>
    obtain ⟨k, hk, rfl, hown, hkp⟩ := hrel
    by_cases hlt : k < n
    · have hb0 : decide ((k : Int) < (n : Int)) = true := decide_eq_true (by omega)
      obtain ⟨b, o, eA, p1, p2⟩ := (H.out.step hkp.out).now.at (k := k) (by rw [HN.out]; exact hlt)
      subst eA
      obtain ⟨p, hp⟩ : ∃ p, ps.getD k default = p := ⟨_, rfl⟩
      have hpk : ps[k]? = some p := by rw [← hp]; simp [List.getD, List.getElem?_eq_getElem (show k < ps.length by rw [HN.out]; exact hlt)]
      rw [hp] at p1 p2
      obtain ⟨p1s, p2s⟩ := p
      have ht := encPairs_take hpk
      dsimp only at ht
      have hle := encPairs_le ps (k + 1)
      have hL : (enc n).length + (encPairs (ps.take k)).length + (encText p1s).length + (encText p2s).length ≤ 140737488000000 := by
        have h1 := HR.out
        rw [ht] at hle
        simp only [List.length_append] at h1 hle
        omega
      have HT := hid ht
      obtain ⟨cur, hcur⟩ : ∃ cur, enc n ++ encPairs (ps.take k) = cur := ⟨_, rfl⟩
      have hL1 : Hid (cur.length + p1s.size ≤ 140737488200000) := hid (by rw [← hcur]; simp only [encText, List.length_append, Array.length_toList] at hL ⊢; rw [show p1s.data.size = p1s.size from rfl] at hL; omega)
      have hL2 : Hid ((cur ++ encText p1s).length + p2s.size ≤ 140737488200000) := hid (by rw [← hcur]; simp only [encText, List.length_append, Array.length_toList] at hL ⊢; rw [show p1s.data.size = p1s.size from rfl, show p2s.data.size = p2s.size from rfl] at hL; rw [show p1s.data.size = p1s.size from rfl]; omega)
      rw [hcur] at hown
      have HCUR := hid hcur
      have hb1 := World.block_lt_of_cell? _ _ p1
      have i0 : (0 : Int) ≤ (k : Int) := by omega
      have i1 : (k : Int) < (n : Int) := by omega
      have hnb : n ≤ 1000000000000 := HNB.out
      clear hp hpk ht hle hL hcur
      go_wp2_with fail
      have b7 := blk_new wr (.cells #[.string p1s, .string p2s] 67)
      have k7 : Kp All wr (wr.alloc (.cells #[.string p1s, .string p2s] 67)) := Kp.al _ _
      obtain ⟨W7, hW7⟩ : ∃ W7, W7 = wr.alloc (.cells #[.string p1s, .string p2s] 67) := ⟨_, rfl⟩
      rw [← hW7] at b7 k7 ⊢
      have c7 := blk_cell b7
      have B7 := hid b7
      have HO7 := hid (own_kept hown.out k7 (fun _ _ => trivial))
      have HK7 := hid (hkp.out.trans k7)
      have KW7 := hid k7
      clear b7 hW7 k7 p1 p2
      go_region_held3 (fun w' => ∀ i, w'.cell? ⟨wr.heap.size, i, none⟩ = (#[.string p1s, .string p2s] : Array Value)[i]?) (first | exact blk_cell (HK8.out.heap B7.out trivial) | exact blk_cell (HK9.out.heap B7.out trivial) | assumption) (first | (go_at_call 39; refine (rputtext_any _ (cur ++ encText p1s) p2s hL2.out _ (own_rb H8.out)).mono ?_; rintro e w9 ⟨⟨v9, rfl, h9⟩, k9⟩; have H9 := hid h9; have HK9 := hid (HK8.out.trans k9); clear h9 k9) | (go_at_call 39; refine (rputtext_any _ cur p1s hL1.out _ (own_rb (own_kept HO7.out (Kp.refl All _).drew (fun _ _ => trivial)))).mono ?_; rintro e w8 ⟨⟨v8, rfl, h8⟩, k8⟩; have H8 := hid h8; have HK8 := hid ((Kp.refl All W7).drew.trans k8); clear h8 k8))
      go_wp2_with fail
      have hs8 : w.heap.size ≤ w8.heap.size := (HK7.out.trans HK8.out).size
      have e9 : enc n ++ encPairs (ps.take (k + 1)) = cur ++ encText p1s ++ encText p2s := by
        rw [HT.out, ← List.append_assoc, HCUR.out, ← List.append_assoc]
      have h9 := own_base H9.out hs8
      rw [← e9] at h9
      have k9 := HK7.out.trans HK9.out
      refine ⟨⟨k + 1, by omega, by go_num, hid h9, hid k9⟩, ?_⟩
      simp [intOf]
      omega
    · have hb0 : decide ((k : Int) < (n : Int)) = false := decide_eq_false (by omega)
      have : k = n := by omega
      subst this
      have hf : enc k ++ encPairs (ps.take k) = enc k ++ encPairs ps := by rw [List.take_of_length_le (by rw [HN.out]; exact Nat.le_refl _)]
      rw [hf] at hown
      go_wp2_with fail
      go_ret
      exact ⟨⟨_, rfl, hown.out⟩, hkp.out⟩
set_option maxRecDepth 100000 in
set_option maxHeartbeats 4000000 in
theorem rreply_any (r : RD) (A : Option Addr) (c : Nat) (w : World) (h : Foot All (Ps A c r.pairs) w) (hr : RDok r) :
    Calls Try.prog 40 #[RV r A c] w (OutB w (encReply r)) := by
  have H := hid h
  have HR := hid hr
  have HZ1 := hid (zig_lt r.err hr.e1 hr.e2)
  have HZ2 := hid (zig_lt r.sess hr.s1 hr.s2)
  have HL1 : Hid ((encZg r.err).length ≤ 140737488300000) := hid (by have := enc_len_le (zig r.err); simp only [encZg]; omega)
  have HL2 : Hid ((encZg r.err ++ encZg r.sess).length ≤ 140737488200000) := hid (by have := enc_len_le (zig r.err); have := enc_len_le (zig r.sess); simp only [encZg, List.length_append]; omega)
  have HL3 : Hid ((encZg r.err ++ encZg r.sess ++ encBool r.found).length + r.val.size ≤ 140737488200000) := hid (by
    have h1 := hr.len
    simp only [encReply, encHead, encText, List.length_append, Array.length_toList] at h1 ⊢
    rw [show r.val.data.size = r.val.size from rfl] at h1
    omega)
  have HL4 : Hid ((enc r.pairs.length ++ encPairs r.pairs).length ≤ 140737488000000) := hid (by
    have h1 := hr.len
    simp only [encReply, encHead, List.length_append] at h1 ⊢
    omega)
  have HL5 : Hid ((encZg r.err ++ encZg r.sess ++ encBool r.found ++ encText r.val).length + (enc r.pairs.length ++ encPairs r.pairs).length ≤ 140737488000000) := hid (by
    have h1 := hr.len
    simp only [encReply, encHead, List.length_append] at h1 ⊢
    omega)
  clear h hr
  go_enter Try.func40, Try.ntmps40
  have b1 := blk_new w (Obj.cells #[.int .i64 r.err, .bool r.found, .string r.val, .int .i64 r.sess, .slice A r.pairs.length c] 26)
  have B1 := hid b1
  have K0 := hid (Kp.al w (Obj.cells #[.int .i64 r.err, .bool r.found, .string r.val, .int .i64 r.sess, .slice A r.pairs.length c] 26))
  clear b1
  go_wp2_with fail
  refine (rzig_any r.err HR.out.e1 HR.out.e2 _).mono ?_
  rintro e w2 ⟨rfl, rfl⟩
  go_wp2_with fail
  refine (rput_any (.slice none 0 0) [] (zig r.err) HZ1.out (by simp) _ (rb_nil _)).mono ?_
  rintro e w2 ⟨⟨v2, rfl, h2⟩, k2⟩
  have H2 := hid h2
  have HK2 := hid k2
  clear h2 k2
  have c1 := blk_cell (HK2.out.heap B1.out trivial)
  go_wp2_with fail
  refine (rzig_any r.sess HR.out.s1 HR.out.s2 _).mono ?_
  rintro e w3 ⟨rfl, rfl⟩
  go_wp2_with fail
  refine (rput_any _ (encZg r.err) (zig r.sess) HZ2.out HL1.out _ (own_rb H2.out)).mono ?_
  rintro e w3 ⟨⟨v3, rfl, h3⟩, k3⟩
  have H3 := hid h3
  have HK3 := hid (HK2.out.trans k3)
  clear h3 k3 c1
  have c1 := blk_cell (HK3.out.heap B1.out trivial)
  go_wp2_with fail
  refine (rputbool_any _ (encZg r.err ++ encZg r.sess) r.found HL2.out _ (own_rb H3.out)).mono ?_
  rintro e w4 ⟨⟨v4, rfl, h4⟩, k4⟩
  have H4 := hid h4
  have HK4 := hid (HK3.out.trans k4)
  clear h4 k4 c1
  have c1 := blk_cell (HK4.out.heap B1.out trivial)
  go_wp2_with fail
  refine (rputtext_any _ (encZg r.err ++ encZg r.sess ++ encBool r.found) r.val HL3.out _ (own_rb H4.out)).mono ?_
  rintro e w5 ⟨⟨v5, rfl, h5⟩, k5⟩
  have H5 := hid h5
  have HK5 := hid (HK4.out.trans k5)
  clear h5 k5 c1
  have c1 := blk_cell (HK5.out.heap B1.out trivial)
  go_wp2_with fail
  refine (rpairs_any r.pairs A c _ (H.out.step (K0.out.trans HK5.out)) HL4.out HR.out.n).mono ?_
  rintro e w6 ⟨⟨v6, rfl, h6⟩, k6⟩
  obtain ⟨A6, c6, rfl⟩ := own_shape h6
  have hsl := own_sl h6 (Nat.le_refl _)
  rw [List.take_of_length_le (by simp)] at hsl
  obtain ⟨A5, c5, rfl⟩ := own_shape (own_kept H5.out k6 (fun _ _ => trivial))
  obtain ⟨n6, hn6⟩ : ∃ n6, (enc r.pairs.length ++ encPairs r.pairs).length = n6 := ⟨_, rfl⟩
  obtain ⟨n5, hn5⟩ : ∃ n5, (encZg r.err ++ encZg r.sess ++ encBool r.found ++ encText r.val).length = n5 := ⟨_, rfl⟩
  have hL := HL5.out
  rw [hn6] at hsl hL
  rw [hn5] at hL
  have h5' := own_base (own_kept H5.out k6 (fun _ _ => trivial)) (K0.out.trans HK4.out).size
  rw [hn5] at h5'
  rw [hn6, hn5]
  have H5' := hid h5'
  have HS6 := hid hsl.1
  have HK6 := hid (K0.out.trans (HK5.out.trans k6))
  have HN6 := hid hn6
  have HN5 := hid hn5
  have HLL := hid hL
  clear h6 k6 hsl hn6 hn5 hL h5' c1
  go_wp2_with (at_builtin; go_loud (refine wpList_app el8 H5'.out HS6.out (u8s_one _) ?_ HK6.out.size rfl _ _ rfl rfl rfl ?_); (have := HLL.out; omega); intro v' w7 hown7 hg7 hob7 hnil7; obtain ⟨A7, c7, rfl⟩ := own_shape hown7; have HOW7 := hid hown7; have HG7 := hid hg7; clear hown7 hg7 hob7 hnil7)
  go_ret
  refine ⟨⟨_, rfl, ?_⟩, HK6.out.then (Kp.grown HG7.out) (fun i hi hS e => by have := (H5'.out.lt i e.symm).1; omega)⟩
  have := HOW7.out
  rw [← u8s_append] at this
  have e : encReply r = encZg r.err ++ encZg r.sess ++ encBool r.found ++ encText r.val ++ (enc r.pairs.length ++ encPairs r.pairs) := by
    simp only [encReply, encHead, List.append_assoc]
  rw [e, List.length_append, HN5.out, HN6.out]
  exact this
end Go.Proofs.Ytkipijdbkkcioaa
