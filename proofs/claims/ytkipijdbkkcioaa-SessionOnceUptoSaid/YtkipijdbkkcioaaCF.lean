/- Bytes of the session table, walked once. No condition on the table but that it lies as Tab says, that its numbers are ints, and that its replies are not great. -/
import Derived.Test.YtkipijdbkkcioaaCE
namespace Go.Proofs.Ytkipijdbkkcioaa
open Go.RowKit
set_option linter.unusedVariables false
set_option linter.unusedSimpArgs false
theorem wf64 {x : Int} (h1 : -9223372036854775808 ≤ x) (h2 : x ≤ 9223372036854775807) : (Lit.int .i64 x).wf = true := by
  simp only [Lit.wf, Bool.and_eq_true, decide_eq_true_eq]
  exact ⟨h1, h2⟩
attribute [local irreducible] enc encText encBool encReply zig beh tailb
set_option maxRecDepth 100000 in
set_option maxHeartbeats 2000000 in
theorem bytes_any (S : Nat → Prop) (p m : Nat) (T : List (Int × Int × RD)) (hok : ∀ x ∈ T, EnOk x) (hl : T.length ≤ 1000) (w : World) (h : Tab S w p m T) :
    Calls Try.prog 23 #[.pointer (some ⟨p, 0, none⟩)] w (BytesP w T) := by
  have H := hid h
  have HOK := hid hok
  have HL := hid hl
  have c0 := blk_cell h.cell
  have hp : p < w.heap.size := blk_lt h.cell
  have HC := hid h.cell
  obtain ⟨X, hX, hT, hF⟩ := h.map
  have HX := hid hX
  obtain ⟨n, hn⟩ : ∃ n, T.length = n := ⟨_, rfl⟩
  have HNL : Hid ((X.map fun x => (x.1, x.2.v)).length = n) := hid (by rw [← hn, hT]; simp)
  have HN := hid hn
  rw [hn] at hl
  have hu : IntKind.u64.wrap (n : Int) = n := by rw [wrap64u]; omega
  clear h hok hX hT hF hn
  go_enter Try.func23, Try.ntmps23
  go_wp2_with (first | (go_at_call 26; refine (made_yes p m w HC.out).mono ?_; rintro e w' ⟨rfl, rfl⟩) | (at_len; go_loud (refine wpList_maplen Try.underlying58 HX.out rfl _ rfl rfl ?_; rw [HNL.out])))
  refine (put_any (.slice none 0 0) [] n (by omega) (by simp) _ (rb_nil _)).mono ?_
  rintro e w1 ⟨⟨v1, rfl, h1⟩, k1⟩
  have H1 := hid h1
  have HK1 := hid k1
  clear h1 k1
  go_wp2_with fail
  refine (ids_any S p m T (fun x hx => wf64 (HOK.out x hx).1 (HOK.out x hx).2.1) HL.out w1 (H.out.kept HK1.out trivial trivial (fun _ _ _ => trivial))).mono ?_
  rintro e w2 ⟨v2, ks, rfl, hperm, hsort, hrow, k2⟩
  have HP := hid hperm
  have HS := hid hsort
  obtain ⟨A2, d2, rfl⟩ := own_shape hrow
  have hkl : ks.length = n := by rw [hperm.length_eq, List.length_map, HN.out]
  rw [hkl] at hrow ⊢
  have HR := hid hrow
  have HK2 := hid (HK1.out.trans k2)
  have HK12 := hid k2
  have HKL := hid hkl
  clear hperm hsort hrow k2 hkl hu c0
  go_wp2_with fail
  have hst : w2.ownsRow w.heap.size 5 1 v1 (enc n ++ encIds T (ks.take 0)).length (u8s (enc n ++ encIds T (ks.take 0))) := by
    have := own_kept H1.out HK12.out (fun _ _ => trivial)
    simpa [encIds] using this
  have HST := hid hst
  clear hst
  go_loopw [3, 20] (fun x i wr => ∃ (k : Nat), k ≤ n ∧ i = .int .i64 k ∧ Hid (wr.ownsRow w.heap.size 5 1 x (enc n ++ encIds T (ks.take k)).length (u8s (enc n ++ encIds T (ks.take k)))) ∧ Hid (Kp All w2 wr)) (fun _ i _ => n - (intOf i).toNat)
  case atStart => exact ⟨0, Nat.zero_le _, rfl, HST, Kp.refl _ _⟩
  case round =>
    obtain ⟨k, hk, rfl, hown, hkp⟩ := hrel
    by_cases hlt : k < n
    · have hb0 : decide ((k : Int) < (n : Int)) = true := decide_eq_true (by omega)
      obtain ⟨id, hid0⟩ : ∃ id, ks[k]? = some id := ⟨_, List.getElem?_eq_getElem (by rw [HKL.out]; exact hlt)⟩
      have hbk : Hid (Kp All w wr) := hid (HK2.out.trans hkp.out)
      have c0 := blk_cell (hbk.out.heap HC.out trivial)
      rcases own_at (own_kept HR.out hkp.out (fun _ _ => trivial)) with ⟨_, e0, _⟩ | ⟨g, cap, cur, e1, hg, hgb, hcs⟩
      · omega
      injection e1 with eA _ ec
      subst eA ec
      have cg := hcs k _ (by rw [List.getElem?_map, hid0]; rfl)
      have hgl := blk_lt hg
      clear hcs hg hgb
      have i0 : (0 : Int) ≤ (k : Int) := by omega
      have i1 : (k : Int) < (n : Int) := by omega
      obtain ⟨Y, hY, hTY, hFY⟩ := (H.out.kept hbk.out trivial trivial (fun _ _ _ => trivial)).map
      obtain ⟨x, hx⟩ : ∃ x, (aget Y id).getD .z = x := ⟨_, rfl⟩
      have HV : Hid (_ = LV x.seq x.r x.A x.c) := hid ((getD_raw Y id).trans (congrArg Raw.v hx))
      have HY := hid hY
      have hmem : (aget T id).isSome := aget_some_of_mem (HP.out.subset (List.mem_of_getElem? hid0))
      have hent : entryOf T id = (id, x.seq, x.r) := by
        rw [entryOf, hTY, aget_raw, ← hx]
        cases he : aget Y id with
        | none => rw [hTY, aget_raw, he] at hmem; simp at hmem
        | some y => rfl
      have hxok : EnOk (id, x.seq, x.r) := by
        rw [← hent]
        obtain ⟨y, hy⟩ := Option.isSome_iff_exists.1 hmem
        rw [entryOf, hy]
        exact HOK.out _ (mem_of_aget hy)
      have HXOK := hid hxok
      have HPS : Hid (Foot S (Ps x.A x.c x.r.pairs) wr) := hid (by
        cases he : aget Y id with
        | none => rw [hTY, aget_raw, he] at hmem; simp at hmem
        | some y =>
          rw [he] at hx
          obtain rfl : y = x := hx
          exact (hFY _ (mem_of_aget he)).1)
      have htk := encIds_take (T := T) hid0
      rw [hent] at htk
      have HTK := hid htk
      obtain ⟨q, hq⟩ : ∃ q, enc n ++ encIds T (ks.take k) = q := ⟨_, rfl⟩
      have hql : q.length ≤ 100100000000000 := by
        have h1 := encIds_le HOK.out (ks.take k) (fun i hi => aget_some_of_mem (HP.out.subset (List.mem_of_mem_take hi)))
        have h2 := enc_len_le n
        have h3 : (ks.take k).length ≤ 1000 := by rw [List.length_take]; omega
        have h4 : (ks.take k).length * 100000000027 ≤ 1000 * 100000000027 := Nat.mul_le_mul_right _ h3
        rw [← hq, List.length_append]
        omega
      rw [hq] at hown
      have HQ := hid hq
      have HQL := hid hql
      clear hid0 hx hY hTY hFY hmem hent hxok htk hq hql
      go_wp2_with (at_lookup; go_loud (refine wpList_lookup_val intKey Try.underlying58 HY.out id (zero69 _) HV.out rfl _ _ rfl rfl rfl ?_))
      have b7 := blk_new wr (Obj.cells #[.int .i64 x.seq, .int .i64 x.r.err, .bool x.r.found, .string x.r.val, .int .i64 x.r.sess, .slice x.A x.r.pairs.length x.c] 69)
      have k7 : Kp All wr (wr.alloc (Obj.cells #[.int .i64 x.seq, .int .i64 x.r.err, .bool x.r.found, .string x.r.val, .int .i64 x.r.sess, .slice x.A x.r.pairs.length x.c] 69)) := Kp.al _ _
      obtain ⟨W7, hW7⟩ : ∃ W7, W7 = wr.alloc (Obj.cells #[.int .i64 x.seq, .int .i64 x.r.err, .bool x.r.found, .string x.r.val, .int .i64 x.r.sess, .slice x.A x.r.pairs.length x.c] 69) := ⟨_, rfl⟩
      rw [← hW7] at b7 k7 ⊢
      have c7 := blk_cell b7
      have B7 := hid b7
      have HO7 := hid (own_kept hown.out k7 (fun _ _ => trivial))
      have HK7 := hid k7
      have hq1 : Hid ((q ++ encZg id).length ≤ 140737488200000) := hid (by have := enc_len_le (zig id); have := HQL.out; simp only [List.length_append, encZg]; omega)
      have hq2 : Hid ((q ++ encZg id ++ encZg x.seq).length + (strOfB (encReply x.r)).size ≤ 140737488200000) := hid (by
        have h1 := enc_len_le (zig id)
        have h2 := enc_len_le (zig x.seq)
        have h3 := HXOK.out.2.2.2.2.2
        have h5 : (strOfB (encReply x.r)).size = (encReply x.r).length := by simp [strOfB, ByteArray.size]
        have := HQL.out
        simp only [List.length_append, encZg]
        simp only at h3
        omega)
      have hzi := zig_lt id HXOK.out.1 HXOK.out.2.1
      have hzs := zig_lt x.seq HXOK.out.2.2.1 HXOK.out.2.2.2.1
      have HZI := hid hzi
      have HZS := hid hzs
      clear b7 hW7 k7 hzi hzs
      go_region_held3 (fun w' => ∀ i, w'.cell? ⟨wr.heap.size, i, none⟩ = (#[.int .i64 x.seq, .int .i64 x.r.err, .bool x.r.found, .string x.r.val, .int .i64 x.r.sess, .slice x.A x.r.pairs.length x.c] : Array Value)[i]?) (first | exact blk_cell (HK8.out.heap B7.out trivial) | exact blk_cell (HK9.out.heap B7.out trivial) | assumption) (first | (go_at_call 34; refine (zig_any id HXOK.out.1 HXOK.out.2.1 _).mono ?_; rintro e w8 ⟨rfl, rfl⟩) | (go_at_call 34; refine (zig_any x.seq HXOK.out.2.2.1 HXOK.out.2.2.2.1 _).mono ?_; rintro e w8 ⟨rfl, rfl⟩) | (go_at_call 33; refine (put_any _ q (zig id) HZI.out (by have := HQL.out; omega) _ (own_rb (own_kept HO7.out (Kp.refl All _).drew (fun _ _ => trivial)))).mono ?_; rintro e w8 ⟨⟨v8, rfl, h8⟩, k8⟩; have H8 := hid h8; have HK8 := hid ((Kp.refl All W7).drew.trans k8); clear h8 k8) | (go_at_call 33; refine (put_any _ (q ++ encZg id) (zig x.seq) HZS.out (by have := hq1.out; omega) _ (own_rb H8.out)).mono ?_; rintro e w9 ⟨⟨v9, rfl, h9⟩, k9⟩; have H9 := hid h9; have HK9 := hid (HK8.out.trans k9); clear h9 k9))
      clear c7
      have c9 := blk_cell (HK9.out.heap B7.out trivial)
      have HK79 := hid (HK7.out.trans HK9.out)
      go_wp2_with fail
      refine (reply_any x.r x.A x.c w9 ((HPS.out.step (HK79.out.mono fun _ _ _ => trivial)).mono fun _ _ _ => trivial) HXOK.out.2.2.2.2.1).mono ?_
      rintro e w10 ⟨⟨v10, rfl, h10⟩, k10⟩
      have hcv : (convert 54 9 v10).run Try.prog w10 = .ok (.string (strOfB (encReply x.r))) w10 := run_conv_row (own_rb h10)
      have HO9 := hid (own_kept H9.out k10 (fun _ _ => trivial))
      have HK10 := hid (HK79.out.trans k10)
      clear h10 k10 c9
      go_wp2_with fail
      refine (puttext_any _ (q ++ encZg id ++ encZg x.seq) (strOfB (encReply x.r)) hq2.out w10 (own_rb HO9.out)).mono ?_
      rintro e w11 ⟨⟨v11, rfl, h11⟩, k11⟩
      have hs10 : w.heap.size ≤ w10.heap.size := (HK2.out.trans (hkp.out.trans HK10.out)).size
      have e11 : enc n ++ encIds T (ks.take (k + 1)) = q ++ encZg id ++ encZg x.seq ++ encText (strOfB (encReply x.r)) := by
        rw [HTK.out, ← List.append_assoc, HQ.out, encEntry]
        simp only [List.append_assoc]
      have h11' := own_base h11 hs10
      rw [← e11] at h11'
      have H11 := hid h11'
      have K11 := hid (hkp.out.trans (HK10.out.trans k11))
      clear h11 h11' k11 e11 hcv hs10
      go_wp2_with fail
      refine ⟨⟨k + 1, by omega, by go_num, H11, K11⟩, ?_⟩
      simp [intOf]
      omega
    · have hb0 : decide ((k : Int) < (n : Int)) = false := decide_eq_false (by omega)
      have : k = n := by omega
      subst this
      have hf : enc k ++ encIds T (ks.take k) = encTab T ks := by rw [List.take_of_length_le (by rw [HKL.out]; exact Nat.le_refl _), encTab, HN.out]
      rw [hf] at hown
      go_wp2_with fail
      go_ret
      exact ⟨ks, HP.out, HS.out, ⟨_, rfl, hown.out⟩, HK2.out.trans hkp.out⟩
end Go.Proofs.Ytkipijdbkkcioaa
