/- A reply in bytes: command.ReplyBytes, walked once. No condition but that its numbers are ints, and its texts not great. -/
import Derived.Test.YtkipijdbkkcioaaCC
import Derived.Test.YtkipijdbkkcioaaSD
import Derived.Deep.RegionHeld3
namespace Go.Proofs.Ytkipijdbkkcioaa
open Go.RowKit
set_option linter.unusedVariables false
set_option linter.unusedSimpArgs false
theorem own_base {w : World} {b b' e sz n : Nat} {v : Value} {xs : List Value} (h : w.ownsRow b e sz v n xs) (hb : b' ≤ b) : w.ownsRow b' e sz v n xs := by
  refine ⟨h.1, ?_⟩
  rcases h.2 with hn | ⟨g, cap, cur, rfl, hg, rest⟩
  · exact .inl hn
  · exact .inr ⟨g, cap, cur, rfl, Nat.le_trans hb hg, rest⟩
def encPairs (ps : List (ByteArray × ByteArray)) : By := ps.flatMap fun p => encText p.1 ++ encText p.2
def encHead (r : RD) : By := encZg r.err ++ encZg r.sess ++ encBool r.found ++ encText r.val ++ enc r.pairs.length
def encReply (r : RD) : By := encHead r ++ encPairs r.pairs
theorem encPairs_take {ps : List (ByteArray × ByteArray)} {k : Nat} {p : ByteArray × ByteArray} (h : ps[k]? = some p) : encPairs (ps.take (k + 1)) = encPairs (ps.take k) ++ (encText p.1 ++ encText p.2) := by
  rw [List.take_add_one, h]
  simp [encPairs]
theorem encPairs_le (ps : List (ByteArray × ByteArray)) (k : Nat) : (encPairs (ps.take k)).length ≤ (encPairs ps).length := by
  have h : encPairs ps = encPairs (ps.take k) ++ encPairs (ps.drop k) := by
    conv => lhs; rw [← List.take_append_drop k ps]
    simp only [encPairs, List.flatMap_append]
  rw [h, List.length_append]
  omega
/-- The numbers are ints, the bytes not great. -/
structure RDok (r : RD) : Prop where
  e1 : -9223372036854775808 ≤ r.err
  e2 : r.err ≤ 9223372036854775807
  s1 : -9223372036854775808 ≤ r.sess
  s2 : r.sess ≤ 9223372036854775807
  len : (encReply r).length ≤ 140737488000000
  n : r.pairs.length ≤ 1000000000000
attribute [local irreducible] enc encText encBool encHead encPairs zig beh tailb
set_option maxRecDepth 100000 in
set_option maxHeartbeats 2000000 in
theorem reply_any (r : RD) (A : Option Addr) (c : Nat) (w : World) (h : Foot All (Ps A c r.pairs) w) (hr : RDok r) :
    Calls Try.prog 36 #[RV r A c] w (OutB w (encReply r)) := by
  have H := hid h
  have HR := hid hr
  obtain ⟨n, hn⟩ : ∃ n, r.pairs.length = n := ⟨_, rfl⟩
  have HN := hid hn
  have hz1 := zig_lt r.err hr.e1 hr.e2
  have hz2 := zig_lt r.sess hr.s1 hr.s2
  have HZ1 := hid hz1
  have HZ2 := hid hz2
  clear h hr hz1 hz2
  rw [RV, hn]
  clear hn
  go_enter Try.func36, Try.ntmps36
  go_wp2_with fail
  have b1 := blk_new w (Obj.cells #[.int .i64 r.err, .bool r.found, .string r.val, .int .i64 r.sess, .slice A n c] 26)
  obtain ⟨W0, hW0⟩ : ∃ W0, W0 = w.alloc (Obj.cells #[.int .i64 r.err, .bool r.found, .string r.val, .int .i64 r.sess, .slice A n c] 26) := ⟨_, rfl⟩
  rw [← hW0] at b1 ⊢
  have k0 : Kp All w W0 := by rw [hW0]; exact Kp.al _ _
  have c1 := blk_cell b1
  have B1 := hid b1
  have K0 := hid k0
  clear b1 k0 hW0
  have HL1 : Hid ((encZg r.err).length ≤ 140737488300000) := hid (by have := enc_len_le (zig r.err); simp only [encZg]; omega)
  go_region_held3 (fun w' => ∀ i, w'.cell? ⟨w.heap.size, i, none⟩ = (#[.int .i64 r.err, .bool r.found, .string r.val, .int .i64 r.sess, .slice A n c] : Array Value)[i]?) (first | exact blk_cell (HK1.out.heap B1.out trivial) | exact blk_cell (HK2.out.heap B1.out trivial) | assumption) (first | (go_at_call 34; refine (zig_any r.err HR.out.e1 HR.out.e2 _).mono ?_; rintro e w2 ⟨rfl, rfl⟩) | (go_at_call 34; refine (zig_any r.sess HR.out.s1 HR.out.s2 _).mono ?_; rintro e w2 ⟨rfl, rfl⟩) | (go_at_call 33; refine (put_any (.slice none 0 0) [] (zig r.err) HZ1.out (by simp) _ (rb_nil _)).mono ?_; rintro e w2 ⟨⟨v1, rfl, h1⟩, k1⟩; have H1 := hid h1; have HK1 := hid ((Kp.refl All W0).drew.trans k1); clear h1 k1) | (go_at_call 33; refine (put_any _ (encZg r.err) (zig r.sess) HZ2.out HL1.out _ (own_rb H1.out)).mono ?_; rintro e w2 ⟨⟨v2, rfl, h2⟩, k2⟩; have H2 := hid h2; have HK2 := hid (HK1.out.trans k2); clear h2 k2))
  have HL2 : Hid ((encZg r.err ++ encZg r.sess).length ≤ 140737488200000) := hid (by have := enc_len_le (zig r.err); have := enc_len_le (zig r.sess); simp only [encZg, List.length_append]; omega)
  have HL3 : Hid ((encZg r.err ++ encZg r.sess ++ encBool r.found).length + r.val.size ≤ 140737488200000) := hid (by
    have h1 := HR.out.len
    simp only [encReply, encHead, encText, List.length_append, Array.length_toList] at h1 ⊢
    rw [show r.val.data.size = r.val.size from rfl] at h1
    omega)
  have HL4 : Hid ((encZg r.err ++ encZg r.sess ++ encBool r.found ++ encText r.val).length ≤ 140737488200000) := hid (by
    have h1 := HR.out.len
    simp only [encReply, encHead, List.length_append] at h1 ⊢
    omega)
  clear c1
  have c1 := blk_cell (HK2.out.heap B1.out trivial)
  go_wp2_with fail
  go_region_held3 (fun w' => ∀ i, w'.cell? ⟨w.heap.size, i, none⟩ = (#[.int .i64 r.err, .bool r.found, .string r.val, .int .i64 r.sess, .slice A n c] : Array Value)[i]?) (first | exact blk_cell (HK3.out.heap B1.out trivial) | exact blk_cell (HK4.out.heap B1.out trivial) | assumption) (first | (go_at_call 53; refine (putbool_any _ (encZg r.err ++ encZg r.sess) r.found HL2.out _ (own_rb (own_kept H2.out (Kp.refl All _).drew (fun _ _ => trivial)))).mono ?_; rintro e w3 ⟨⟨v3, rfl, h3⟩, k3⟩; have H3 := hid h3; have HK3 := hid (HK2.out.trans ((Kp.refl All w2).drew.trans k3)); clear h3 k3) | (go_at_call 35; refine (puttext_any _ (encZg r.err ++ encZg r.sess ++ encBool r.found) r.val HL3.out _ (own_rb H3.out)).mono ?_; rintro e w4 ⟨⟨v4, rfl, h4⟩, k4⟩; have H4 := hid h4; have HK4 := hid (HK3.out.trans k4); clear h4 k4))
  clear c1
  have c1 := blk_cell (HK4.out.heap B1.out trivial)
  have hu : IntKind.u64.wrap (n : Int) = n := by rw [wrap64u]; have := HR.out.n; have := HN.out; omega
  go_wp2_with fail
  refine (put_any _ (encZg r.err ++ encZg r.sess ++ encBool r.found ++ encText r.val) n (by have := HR.out.n; have := HN.out; omega) (by have := HL4.out; omega) _ (own_rb H4.out)).mono ?_
  rintro e w5 ⟨⟨v5, rfl, h5⟩, k5⟩
  have H5 := hid h5
  have HK5 := hid (HK4.out.trans k5)
  clear h5 k5
  clear c1
  have c1 := blk_cell (HK5.out.heap B1.out trivial)
  go_wp2_with fail
  have hk05 : Kp All w w5 := K0.out.trans HK5.out
  have hs4 : w.heap.size ≤ w4.heap.size := (K0.out.trans HK4.out).size
  have hst : w5.ownsRow w.heap.size 5 1 v5 (encHead r ++ encPairs (r.pairs.take 0)).length (u8s (encHead r ++ encPairs (r.pairs.take 0))) := by
    have h := own_base H5.out hs4
    simp only [List.take_zero, encPairs, List.flatMap_nil, List.append_nil, encHead, HN.out]
    exact h
  have HST := hid hst
  have HK05 := hid hk05
  clear c1 hu hk05 hs4 hst
  go_loopw [3, 30] (fun x i wr => ∃ (k : Nat), k ≤ n ∧ i = .int .i64 k ∧ Hid (wr.ownsRow w.heap.size 5 1 x (encHead r ++ encPairs (r.pairs.take k)).length (u8s (encHead r ++ encPairs (r.pairs.take k)))) ∧ Hid (Kp All w wr)) (fun _ i _ => n - (intOf i).toNat)
  case atStart => exact ⟨0, Nat.zero_le _, rfl, HST, HK05⟩
  case round =>
    obtain ⟨k, hk, rfl, hown, hkp⟩ := hrel
    by_cases hlt : k < n
    · have hb0 : decide ((k : Int) < (n : Int)) = true := decide_eq_true (by omega)
      obtain ⟨b, o, eA, p1, p2⟩ := (H.out.step hkp.out).now.at (k := k) (by rw [HN.out]; exact hlt)
      subst eA
      obtain ⟨p, hp⟩ : ∃ p, r.pairs.getD k default = p := ⟨_, rfl⟩
      have hpk : r.pairs[k]? = some p := by rw [← hp]; simp [List.getD, List.getElem?_eq_getElem (show k < r.pairs.length by rw [HN.out]; exact hlt)]
      rw [hp] at p1 p2
      obtain ⟨p1s, p2s⟩ := p
      have ht := encPairs_take hpk
      dsimp only at ht
      have hle := encPairs_le r.pairs (k + 1)
      have hL : (encHead r).length + (encPairs (r.pairs.take k)).length + (encText p1s).length + (encText p2s).length ≤ 140737488000000 := by
        have h1 := HR.out.len
        rw [ht] at hle
        simp only [encReply, List.length_append] at h1 hle
        omega
      have HT := hid ht
      obtain ⟨cur, hcur⟩ : ∃ cur, encHead r ++ encPairs (r.pairs.take k) = cur := ⟨_, rfl⟩
      have hL1 : Hid (cur.length + p1s.size ≤ 140737488200000) := hid (by rw [← hcur]; simp only [encText, List.length_append, Array.length_toList] at hL ⊢; rw [show p1s.data.size = p1s.size from rfl] at hL; omega)
      have hL2 : Hid ((cur ++ encText p1s).length + p2s.size ≤ 140737488200000) := hid (by rw [← hcur]; simp only [encText, List.length_append, Array.length_toList] at hL ⊢; rw [show p1s.data.size = p1s.size from rfl, show p2s.data.size = p2s.size from rfl] at hL; rw [show p1s.data.size = p1s.size from rfl]; omega)
      rw [hcur] at hown
      have HCUR := hid hcur
      have hb1 := World.block_lt_of_cell? _ _ p1
      have i0 : (0 : Int) ≤ (k : Int) := by omega
      have i1 : (k : Int) < (n : Int) := by omega
      have hnb : n ≤ 1000000000000 := by have := HR.out.n; rw [HN.out] at this; exact this
      clear hp hpk ht hle hL hcur
      go_wp2_with fail
      have b7 := blk_new wr (.cells #[.string p1s, .string p2s] 67)
      have k7 : Kp All wr (wr.alloc (.cells #[.string p1s, .string p2s] 67)) := Kp.al _ _
      obtain ⟨W7, hW7⟩ : ∃ W7, W7 = wr.alloc (.cells #[.string p1s, .string p2s] 67) := ⟨_, rfl⟩
      rw [← hW7] at b7 k7 ⊢
      have c7 := blk_cell b7
      have B7 := hid b7
      have HO7 := hid (own_kept hown.out k7 (fun _ _ => trivial))
      have HK7 := hid (hkp.out.trans k7)
      have KW7 := hid k7
      clear b7 hW7 k7 p1 p2
      go_region_held3 (fun w' => ∀ i, w'.cell? ⟨wr.heap.size, i, none⟩ = (#[.string p1s, .string p2s] : Array Value)[i]?) (first | exact blk_cell (HK8.out.heap B7.out trivial) | exact blk_cell (HK9.out.heap B7.out trivial) | assumption) (first | (go_at_call 35; refine (puttext_any _ cur p1s hL1.out _ (own_rb (own_kept HO7.out (Kp.refl All _).drew (fun _ _ => trivial)))).mono ?_; rintro e w8 ⟨⟨v8, rfl, h8⟩, k8⟩; have H8 := hid h8; have HK8 := hid ((Kp.refl All W7).drew.trans k8); clear h8 k8) | (go_at_call 35; refine (puttext_any _ (cur ++ encText p1s) p2s hL2.out _ (own_rb H8.out)).mono ?_; rintro e w9 ⟨⟨v9, rfl, h9⟩, k9⟩; have H9 := hid h9; have HK9 := hid (HK8.out.trans k9); clear h9 k9))
      go_wp2_with fail
      have hs8 : w.heap.size ≤ w8.heap.size := (HK7.out.trans HK8.out).size
      have e9 : encHead r ++ encPairs (r.pairs.take (k + 1)) = cur ++ encText p1s ++ encText p2s := by
        rw [HT.out, ← List.append_assoc, HCUR.out, ← List.append_assoc]
      have h9 := own_base H9.out hs8
      rw [← e9] at h9
      have k9 := HK7.out.trans HK9.out
      refine ⟨⟨k + 1, by omega, by go_num, hid h9, hid k9⟩, ?_⟩
      simp [intOf]
      omega
    · have hb0 : decide ((k : Int) < (n : Int)) = false := decide_eq_false (by omega)
      have : k = n := by omega
      subst this
      have hf : encHead r ++ encPairs (r.pairs.take k) = encReply r := by rw [List.take_of_length_le (by rw [HN.out]; exact Nat.le_refl _)]; rfl
      rw [hf] at hown
      go_wp2_with fail
      go_ret
      exact ⟨⟨_, rfl, hown.out⟩, hkp.out⟩
end Go.Proofs.Ytkipijdbkkcioaa
