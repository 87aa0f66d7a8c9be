/- The document's sessions in bytes: walked once. No condition but that the numbers are ints, and the replies not great. -/
import Derived.Test.YtkipijdbkkcioaaCJ
import Derived.Test.YtkipijdbkkcioaaCE
namespace Go.Proofs.Ytkipijdbkkcioaa
open Go.RowKit
set_option linter.unusedVariables false
set_option linter.unusedSimpArgs false
theorem els : El Try.prog 43 51 7 80 (.agg #[.int .i64 0, .int .i64 0, .int .i64 0, .bool false, .string ⟨#[]⟩, .int .i64 0, .slice none 0 0]) := ⟨Try.underlying43, by kernel_rfl, rfl, by decide, by decide⟩
@[reducible] def sc7 (x : Int × Raw) : List Value := [.int .i64 x.1, .int .i64 x.2.seq, .int .i64 x.2.r.err, .bool x.2.r.found, .string x.2.r.val, .int .i64 x.2.r.sess, .slice x.2.A x.2.r.pairs.length x.2.c]
/-- sessions as cells -/
def ssc (L : List (Int × Raw)) : List Value := L.flatMap sc7
theorem ssc_at {L : List (Int × Raw)} {k : Nat} {x : Int × Raw} (h : L[k]? = some x) (i : Nat) (hi : i < 7) : (ssc L)[k * 7 + i]? = (sc7 x)[i]? := by
  induction L generalizing k with
  | nil => simp at h
  | cons q L ih =>
    cases k with
    | zero =>
      simp at h; subst h
      rw [ssc, List.flatMap_cons, Nat.zero_mul, Nat.zero_add, List.getElem?_append_left (by simpa using hi)]
    | succ k =>
      have := ih (k := k) (by simpa using h)
      rw [ssc, List.flatMap_cons, List.getElem?_append_right (by simp; omega)]
      rw [show (k + 1) * 7 + i - (sc7 q).length = k * 7 + i from by simp; omega]
      exact this
def enOf (x : Int × Raw) : Int × Int × RD := (x.1, x.2.seq, x.2.r)
def encEns (L : List (Int × Raw)) : By := L.flatMap fun x => encEntry (enOf x)
theorem encEns_take {L : List (Int × Raw)} {k : Nat} {x : Int × Raw} (h : L[k]? = some x) : encEns (L.take (k + 1)) = encEns (L.take k) ++ encEntry (enOf x) := by
  rw [List.take_add_one, h]
  simp [encEns]
theorem encEns_le {L : List (Int × Raw)} (hok : ∀ x ∈ L, EnOk (enOf x)) : (encEns L).length ≤ L.length * 100000000027 := by
  induction L with
  | nil => simp [encEns]
  | cons x l ih =>
    have h1 := ih (fun i hi => hok i (List.mem_cons_of_mem _ hi))
    have h3 := encEntry_le (hok x (List.mem_cons_self ..))
    simp only [encEns, List.flatMap_cons, List.length_append, List.length_cons] at h1 ⊢
    omega
attribute [local irreducible] enc encText encBool encReply zig beh tailb
set_option maxRecDepth 100000 in
set_option maxHeartbeats 4000000 in
theorem rtbytes_any (L : List (Int × Raw)) (A : Option Addr) (c : Nat) (w : World) (h : Foot All (Sl A L.length c 7 (ssc L)) w) (hp : ∀ x ∈ L, Foot All (Ps x.2.A x.2.c x.2.r.pairs) w) (hok : ∀ x ∈ L, EnOk (enOf x)) (hl : L.length ≤ 1000) :
    Calls Try.prog 24 #[.slice A L.length c] w (OutB w (enc L.length ++ encEns L)) := by
  have H := hid h
  have HP := hid hp
  have HOK := hid hok
  obtain ⟨n, hn⟩ : ∃ n, L.length = n := ⟨_, rfl⟩
  have HN := hid hn
  rw [hn] at hl ⊢
  have hu : IntKind.u64.wrap (n : Int) = n := by rw [wrap64u]; omega
  have HL := hid hl
  clear h hp hok hn
  go_enter Try.func24, Try.ntmps24
  go_wp2_with fail
  refine (rput_any (.slice none 0 0) [] n (by omega) (by simp) _ (rb_nil _)).mono ?_
  rintro e w5 ⟨⟨v5, rfl, h5⟩, k5⟩
  have H5 := hid h5
  have HK05 := hid k5
  clear h5 k5
  go_wp2_with fail
  have hst : w5.ownsRow w.heap.size 5 1 v5 (enc n ++ encEns (L.take 0)).length (u8s (enc n ++ encEns (L.take 0))) := by
    have h := H5.out
    simp only [List.take_zero, encEns, List.flatMap_nil, List.append_nil]
    exact h
  have HST := hid hst
  clear hu hst
  go_loopw [3, 12] (fun x i wr => ∃ (k : Nat), k ≤ n ∧ i = .int .i64 k ∧ Hid (wr.ownsRow w.heap.size 5 1 x (enc n ++ encEns (L.take k)).length (u8s (enc n ++ encEns (L.take k)))) ∧ Hid (Kp All w wr)) (fun _ i _ => n - (intOf i).toNat)
  case atStart => exact ⟨0, Nat.zero_le _, rfl, HST, HK05⟩
  case round =>
    obtain ⟨k, hk, rfl, hown, hkp⟩ := hrel
    by_cases hlt : k < n
    · have hb0 : decide ((k : Int) < (n : Int)) = true := decide_eq_true (by omega)
      obtain ⟨y, hy⟩ : ∃ y, L[k]? = some y := ⟨_, List.getElem?_eq_getElem (by rw [HN.out]; exact hlt)⟩
      obtain ⟨_, _, h3⟩ := (H.out.step hkp.out).now
      obtain ⟨b, o, eA, hr⟩ := h3 (by rw [HN.out]; omega)
      have cc := fun i (hi : i < 7) z (hz : (sc7 y)[i]? = some z) => hr (k * 7 + i) z ((ssc_at hy i hi).trans hz)
      have p0 := cc 0 (by omega) _ rfl
      have p1 := cc 1 (by omega) _ rfl
      have p2 := cc 2 (by omega) _ rfl
      have p3 := cc 3 (by omega) _ rfl
      have p4 := cc 4 (by omega) _ rfl
      have p5 := cc 5 (by omega) _ rfl
      have p6 := cc 6 (by omega) _ rfl
      simp only [← Nat.add_assoc, Nat.add_zero] at p0 p1 p2 p3 p4 p5 p6
      subst eA
      have hb1 := World.block_lt_of_cell? _ _ p0
      have hym := List.mem_of_getElem? hy
      have HXOK := hid (HOK.out y hym)
      have HPS := hid ((HP.out y hym).step hkp.out)
      have htk := encEns_take hy
      have HTK := hid htk
      obtain ⟨q, hq⟩ : ∃ q, enc n ++ encEns (L.take k) = q := ⟨_, rfl⟩
      have hql : q.length ≤ 100100000000000 := by
        have h1 := encEns_le (L := L.take k) (fun x hx => HOK.out x (List.mem_of_mem_take hx))
        have h2 := enc_len_le n
        have h3 : (L.take k).length ≤ 1000 := by rw [List.length_take]; omega
        have h4 : (L.take k).length * 100000000027 ≤ 1000 * 100000000027 := Nat.mul_le_mul_right _ h3
        rw [← hq, List.length_append]
        omega
      rw [hq] at hown
      have HQ := hid hq
      have HQL := hid hql
      obtain ⟨id, x⟩ := y
      dsimp only at p0 p1 p2 p3 p4 p5 p6 HPS
      have i0 : (0 : Int) ≤ (k : Int) := by omega
      have i1 : (k : Int) < (n : Int) := by omega
      clear hr cc h3 hy hym htk hq hql
      go_wp2_with fail
      have b7 := blk_new wr (Obj.cells #[.int .i64 id, .int .i64 x.seq, .int .i64 x.r.err, .bool x.r.found, .string x.r.val, .int .i64 x.r.sess, .slice x.A x.r.pairs.length x.c] 51)
      have k7 : Kp All wr (wr.alloc (Obj.cells #[.int .i64 id, .int .i64 x.seq, .int .i64 x.r.err, .bool x.r.found, .string x.r.val, .int .i64 x.r.sess, .slice x.A x.r.pairs.length x.c] 51)) := Kp.al _ _
      obtain ⟨W7, hW7⟩ : ∃ W7, W7 = wr.alloc (Obj.cells #[.int .i64 id, .int .i64 x.seq, .int .i64 x.r.err, .bool x.r.found, .string x.r.val, .int .i64 x.r.sess, .slice x.A x.r.pairs.length x.c] 51) := ⟨_, rfl⟩
      rw [← hW7] at b7 k7 ⊢
      have c7 := blk_cell b7
      have B7 := hid b7
      have HO7 := hid (own_kept hown.out k7 (fun _ _ => trivial))
      have HK7 := hid k7
      have hq1 : Hid ((q ++ encZg id).length ≤ 140737488200000) := hid (by have := enc_len_le (zig id); have := HQL.out; simp only [List.length_append, encZg]; omega)
      have hq2 : Hid ((q ++ encZg id ++ encZg x.seq).length + (strOfB (encReply x.r)).size ≤ 140737488200000) := hid (by
        have h1 := enc_len_le (zig id)
        have h2 := enc_len_le (zig x.seq)
        have h3 : (encReply x.r).length ≤ 100000000000 := HXOK.out.2.2.2.2.2
        have h5 : (strOfB (encReply x.r)).size = (encReply x.r).length := by simp [strOfB, ByteArray.size]
        have := HQL.out
        simp only [List.length_append, encZg]
        omega)
      have E1 : Hid (-9223372036854775808 ≤ id ∧ id ≤ 9223372036854775807) := hid ⟨HXOK.out.1, HXOK.out.2.1⟩
      have E2 : Hid (-9223372036854775808 ≤ x.seq ∧ x.seq ≤ 9223372036854775807) := hid ⟨HXOK.out.2.2.1, HXOK.out.2.2.2.1⟩
      have HZI := hid (zig_lt id E1.out.1 E1.out.2)
      have HZS := hid (zig_lt x.seq E2.out.1 E2.out.2)
      have hq0 : Hid (q.length ≤ 140737488300000) := hid (by have := HQL.out; omega)
      have hq1' : Hid ((q ++ encZg id).length ≤ 140737488300000) := hid (by have := hq1.out; omega)
      clear b7 hW7 k7 p0 p1 p2 p3 p4 p5 p6
      go_region_held3 (fun w' => ∀ i, w'.cell? ⟨wr.heap.size, i, none⟩ = (#[.int .i64 id, .int .i64 x.seq, .int .i64 x.r.err, .bool x.r.found, .string x.r.val, .int .i64 x.r.sess, .slice x.A x.r.pairs.length x.c] : Array Value)[i]?) (first | exact blk_cell (HK8.out.heap B7.out trivial) | exact blk_cell (HK9.out.heap B7.out trivial) | assumption) (first | (go_at_call 38; have h8' := H8.out; clear h8'; refine (rzig_any x.seq E2.out.1 E2.out.2 _).mono ?_; rintro e w8 ⟨rfl, rfl⟩) | (go_at_call 38; refine (rzig_any id E1.out.1 E1.out.2 _).mono ?_; rintro e w8 ⟨rfl, rfl⟩) | (go_at_call 37; refine (rput_any _ (q ++ encZg id) (zig x.seq) HZS.out hq1'.out _ (own_rb H8.out)).mono ?_; rintro e w9 ⟨⟨v9, rfl, h9⟩, k9⟩; have H9 := hid h9; have HK9 := hid (HK8.out.trans k9); clear h9 k9) | (go_at_call 37; refine (rput_any _ q (zig id) HZI.out hq0.out _ (own_rb (own_kept HO7.out (Kp.refl All _).drew (fun _ _ => trivial)))).mono ?_; rintro e w8 ⟨⟨v8, rfl, h8⟩, k8⟩; have H8 := hid h8; have HK8 := hid ((Kp.refl All W7).drew.trans k8); clear h8 k8))
      clear c7
      have c9 := blk_cell (HK9.out.heap B7.out trivial)
      have HK79 := hid (HK7.out.trans HK9.out)
      go_wp2_with fail
      refine (rreply_any x.r x.A x.c w9 (HPS.out.step HK79.out) HXOK.out.2.2.2.2.1).mono ?_
      rintro e w10 ⟨⟨v10, rfl, h10⟩, k10⟩
      have hcv : (convert 54 9 v10).run Try.prog w10 = .ok (.string (strOfB (encReply x.r))) w10 := run_conv_row (own_rb h10)
      have HO9 := hid (own_kept H9.out k10 (fun _ _ => trivial))
      have HK10 := hid (HK79.out.trans k10)
      clear h10 k10 c9
      go_wp2_with fail
      refine (rputtext_any _ (q ++ encZg id ++ encZg x.seq) (strOfB (encReply x.r)) hq2.out w10 (own_rb HO9.out)).mono ?_
      rintro e w11 ⟨⟨v11, rfl, h11⟩, k11⟩
      have hs10 : w.heap.size ≤ w10.heap.size := (hkp.out.trans HK10.out).size
      have e11 : enc n ++ encEns (L.take (k + 1)) = q ++ encZg id ++ encZg x.seq ++ encText (strOfB (encReply x.r)) := by
        rw [HTK.out, ← List.append_assoc, HQ.out, encEntry]
        simp only [List.append_assoc, enOf]
      have h11' := own_base h11 hs10
      rw [← e11] at h11'
      have H11 := hid h11'
      have K11 := hid (hkp.out.trans (HK10.out.trans k11))
      clear h11 h11' k11 e11 hcv hs10
      go_wp2_with fail
      refine ⟨⟨k + 1, by omega, by go_num, H11, K11⟩, ?_⟩
      simp [intOf]
      omega
    · have hb0 : decide ((k : Int) < (n : Int)) = false := decide_eq_false (by omega)
      have : k = n := by omega
      subst this
      have hf : enc k ++ encEns (L.take k) = enc k ++ encEns L := by rw [List.take_of_length_le (by rw [HN.out]; exact Nat.le_refl _)]
      rw [hf] at hown
      go_wp2_with fail
      go_ret
      exact ⟨⟨_, rfl, hown.out⟩, hkp.out⟩
end Go.Proofs.Ytkipijdbkkcioaa
