/- A snapshot's frames as an iterator: walked once. A loop over an iterator whose iterator itself runs a loop over an iterator: the loop's law, where its body never leaves; over any program. The snapshot layer's Chunks: its frames collected: walked once. The snapshot layer's parts, Chunks: walked once each. slices.Equal over two rows of bytes: walked once. -/
import Derived.Test.YtbkhademplgicaaGreatDoorM8
import Derived.BigRegionIn
import Derived.Stop.RegionWithIn
import Derived.Maps.AppendAt
set_option linter.unusedVariables false
set_option linter.unusedSimpArgs false
namespace Go.Proofs.YtbkhademplgicaaGreatDoor
open Go.RowKit Go.Shelf
set_option linter.unusedVariables false
set_option linter.unusedSimpArgs false
attribute [local go_sem] Oper.semAt_some
theorem esnap_len (x : Sn) : (encSnap x).length ≤ 45 + 9 * (x.V.length + x.L.length) + x.data.length := by
  have h1 := flat_len x.V; have h2 := flat_len x.L; have h3 := enc_len_le x.V.length; have h4 := enc_len_le x.L.length
  have h5 := enc_len_le (zig x.index); have h6 := enc_len_le (zig x.term); have h7 := enc_len_le (strOfB x.data).size
  have h8 : (strOfB x.data).size = x.data.length := by simp [strOfB, ByteArray.size]
  have h9 : (strOfB x.data).data.toList.length = x.data.length := by simp [strOfB]
  simp only [encSnap, encConf, encList, encText, encZg, List.length_append]
  omega
/-- Where only the normal way out is wanted. -/
def on (R : Act → World → Prop) : Exit → Act → World → Prop := fun e a w => match e with | .normal => R a w | _ => False
theorem wpIn_on {F : Fence} {n : Nat} {P : Program} {c : Code} {Q : Exit → Act → World → Prop} {a : Act} {w : World} (R : Act → World → Prop) (h : c.wpIn F n P (on R) a w) (k : ∀ a w, R a w → Q .normal a w) : c.wpIn F n P Q a w :=
  wpIn_mono h (by
    intro e a w h
    cases e
    case normal => exact k a w h
    all_goals exact h.elim)
theorem roundIn_any {m k l2 l : Nat} {P : Program} {fn : FuncId} {tmps : Array Value} {assign body : Code} {w : World} {R : Ending → World → Prop} (h : RoundIn Fence.wide m P l fn tmps assign body w R) : RoundIn (Fence.wide.inRound l2) k P l fn tmps assign body w R :=
  ⟨trivial, fun c cs _ => h.2 c cs (room_wide _)⟩
theorem sl_block {g o n c sz : Nat} {xs : List Value} {w w' : World} (h : Sl (some ⟨g, o, none⟩) n c sz xs w) (e : w'.heap[g]? = w.heap[g]?) : Sl (some ⟨g, o, none⟩) n c sz xs w' := by
  refine ⟨h.1, h.2.1, fun hn => ?_⟩
  obtain ⟨b, o', e', hr⟩ := h.2.2 hn
  injection e' with e'
  injection e' with e1 e2 _
  subst e1 e2
  exact ⟨g, o, rfl, fun j u hj => (World.cell?_of_block (a := ⟨g, o + j, none⟩) e).trans (hr j u hj)⟩
theorem sl_chunk {g M c y : Nat} {b : By} {w : World} (hb : b.length = M) (h : Sl (some ⟨g, 0, none⟩) M c 1 (u8s b) w) : Sl (some ⟨g, 0 + 4096 * y, none⟩) (clen M y) (clen M y) 1 (u8s (chunkL b y)) w := by
  unfold chunkL
  rw [hb]
  by_cases hy : 4096 * y ≤ M
  · have h1 := sl_sub (lo := 4096 * y) (k := clen M y) hb h (by unfold clen; omega)
    exact ⟨h1.1, Nat.le_refl _, h1.2.2⟩
  · have h0 : clen M y = 0 := by unfold clen; omega
    rw [h0]
    exact ⟨by simp [u8s], Nat.le_refl _, fun h => absurd h (by omega)⟩
theorem chunkL_len {b : By} {y : Nat} : (chunkL b y).length = clen b.length y := by
  unfold chunkL clen
  rw [List.length_take, List.length_drop]
  omega
theorem encSnap_pos (x : Sn) : 0 < (encSnap x).length := by
  have := enc_len (zig x.index)
  simp only [encSnap, encZg, List.length_append]
  omega
theorem Kp.undrew {S : Nat → Prop} {w w' : World} (h : Kp S w w'.drew) : Kp S w w' := ⟨h.os, h.tape, h.output, h.size, h.block⟩
theorem kf_kp {B : Nat} {w w' : World} (k : Kp All w w') : KeepsFrom B w w' := ⟨k.size, fun i o _ hi _ => (k.block i (Array.getElem?_eq_some_iff.1 hi).1 trivial).trans hi⟩
theorem grown_kp {w w' : World} (k : Kp All w w') {row : Option Nat} : w.grownBy w' row := ⟨k.os, k.tape, k.output, k.size, fun b hb _ => k.block b hb trivial⟩
theorem pv_grown {B : Nat} {W W' : World} (hB : B < W.heap.size) (hp : ∀ b, Pv B W b → b < W.heap.size) (k : Kp All W W') : ∀ b, Pv B W' b → b < W'.heap.size :=
  fun b h => Nat.lt_of_lt_of_le (hp b ((Pv.same (k.block B hB trivial) b).1 h)) k.size
set_option maxRecDepth 100000 in
set_option maxHeartbeats 2000000 in
theorem parts1_in (n : Nat) (hn : 3 ≤ n) (l B bs : Nat) (x : Sn) (VA LA DA : Option Addr) (vn vc ln lc dn dc : Nat) (hlen : 9 * (vn + ln) + dn ≤ 1500000) (J : List Hd → World → Prop) (W : World) (hJ : OwnFrom W.heap.size J)
    (hB : B < W.heap.size) (hp : ∀ pre W', J pre W' → ∀ b, Pv B W' b → b < W'.heap.size) (hY : Yd l B W.heap.size J)
    (hb : W.heap[bs]? = some (.cells #[.int .i64 x.index, .int .i64 x.term, .slice VA vn vc, .slice LA ln lc, .slice DA dn dc] 27 (0, 0))) (hs : Snp x VA LA DA vn vc ln lc dn dc W) (h0 : J [] W) :
    CallsIn Fence.wide n Tryz.prog 73 #[.func (.yield l) #[] #[], .pointer (some ⟨bs, 0, none⟩)] W fun e W' => (∃ v, e = .returned v) ∧ ∃ xs, J xs W' ∧ FrOk B W.heap.size xs (chunksB x) W' ∧ Rk B W W' := by
  refine callsIn_of_wp_marks Tryz.func73 rfl trivial ?_ rfl
  simp only [Tryz.ntmps73, List.size_toArray, List.length_cons, List.length_nil, Nat.reduceAdd, Nat.reduceSub, Array.replicate_succ, Array.replicate_zero, List.push_toArray, List.append_toArray, List.nil_append, List.cons_append]
  have b2 := blk_new W (.cells #[.func (.yield l) #[] #[]] 107)
  have k2 := Kp.al W (.cells #[.func (.yield l) #[] #[]] 107)
  have hb2 := blk_cell (k2.heap hb trivial)
  have HS2 := hid (hs.step k2)
  have HY := hid hY; have HJ := hid hJ; have HP := hid hp; have HB := hid hb; have H0 := hid h0
  clear hs hY hJ hp hb h0
  have hf1 : Fence.wide.fn 74 := trivial
  have hf2 : Fence.wide.fn 76 := trivial
  have hf3 : Fence.wide.fn 75 := trivial
  have hf4 : Fence.wide.fn 77 := trivial
  have hf5 : Fence.wide.fn 78 := trivial
  have hf6 : Fence.wide.fn 79 := trivial
  have hn1 : 1 ≤ n := by omega
  gi_wp2_with (gi_at_call 74; refine (callsIn_wide.2 (snapbytes_any x VA LA DA vn vc ln lc dn dc (by omega) _ HS2.out)).mono ?_; rintro e w7 ⟨⟨v7, rfl, ho7⟩, hk7⟩)
  have K7 := hid (k2.trans hk7).drew
  have B7 := hid ((k2.trans hk7).drew.heap HB.out trivial)
  have hc7 := blk_cell B7.out
  have b27 := hid (hk7.drew.heap b2 trivial)
  have HO7 := hid (World.ownsRow.mono (base' := W.heap.size) ho7 (by simp))
  have hi1 := HS2.out.i.1; have hi2 := HS2.out.i.2; have ht1 := HS2.out.t.1; have ht2 := HS2.out.t.2
  have HZ1 := hid (zig_lt x.index hi1 hi2); have HZ2 := hid (zig_lt x.term ht1 ht2)
  have HE1 : Hid (([] ++ enc (zig x.index)).length ≤ 140737488300000) := by
    have := enc_len_le (zig x.index); rw [List.nil_append]; exact hid (by omega)
  clear b2 k2 hb2 hk7 ho7
  refine wpIn_wide.2 ?_
  go_region_held3 (fun w' => ∀ i, w'.cell? ⟨bs, i, none⟩ = (#[.int .i64 x.index, .int .i64 x.term, .slice VA vn vc, .slice LA ln lc, .slice DA dn dc] : Array Value)[i]?) (first | exact blk_cell HB15.out | exact blk_cell HB11.out | exact hc7 | assumption) (first | (go_at_call 75; have h11 := HO11.out; clear h11; refine (put_any v11 _ (zig x.term) HZ2.out HE1.out _ (own_rb HO11.out)).mono ?_; rintro e w15 ⟨⟨v15, rfl, ho15⟩, hk15⟩; have HO15 := hid ho15; have HK15 := hid (HK11.out.trans hk15); have HL15 := hid (HL11.out.trans hk15); have HB15 := hid (hk15.heap HB11.out trivial); clear ho15 hk15) | (go_at_call 75; refine (put_any _ [] (zig x.index) HZ1.out (by simp) _ (rb_nil _)).mono ?_; rintro e w11 ⟨⟨v11, rfl, ho11⟩, hk11⟩; have HO11 := hid ho11; have HK11 := hid (K7.out.trans hk11); have HL11 : Hid (Kp All w7 w11) := hid ((Kp.refl _ _).drew.trans hk11); have HB11 := hid (hk11.heap B7.out trivial); clear ho11 hk11) | (go_at_call 76; refine (zig_any _ (by assumption) (by assumption) _).mono ?_; rintro e w' ⟨rfl, rfl⟩))
  clear hc7 HZ1 HZ2 HE1 HB11 HO11 HK11 HL11
  have HO75 := hid (own_kept HO7.out HL15.out (fun _ _ => trivial))
  obtain ⟨M, hM⟩ : ∃ M, (encSnap x).length = M := ⟨_, rfl⟩
  have hMb : M ≤ 1600000 := by have := esnap_len x; have := HS2.out.cf.vn; have := HS2.out.cf.ln; have := HS2.out.dn; omega
  have HM := hid hM
  have hM0 : 0 < M := by rw [← hM]; exact encSnap_pos x
  obtain ⟨A7, c7, rfl⟩ := own_shape HO75.out
  rw [hM]
  have h64 : ((M : Int) % 18446744073709551616) = (M : Int) := by omega
  have HF := hid (show Foot All (Sl A7 M c7 1 (u8s (encSnap x))) w15 from by have := own_footA HO75.out; rwa [hM] at this)
  have hcr := crcB_lt (encSnap x)
  have h65 : ((crcB (encSnap x) : Int) % 18446744073709551616) = (crcB (encSnap x) : Int) := by omega
  have hr1 : Hid (([] ++ enc (zig x.index) ++ enc (zig x.term)).length ≤ 140737488300000 ∧ ([] ++ enc (zig x.index) ++ enc (zig x.term) ++ enc M).length ≤ 140737488300000) := by
    have h1 := enc_len_le (zig x.index); have h2 := enc_len_le (zig x.term); have h3 := enc_len_le M
    simp only [List.length_append, List.length_nil] at *
    exact hid ⟨by omega, by omega⟩
  gi_wp2_with (first | (gi_at_call 75; have h20 := HO20.out; clear h20; refine (callsIn_wide.2 (put_any v20 _ (crcB (encSnap x)) (by omega) hr1.out.2 _ (own_rb HO20.out))).mono ?_; rintro e w24 ⟨⟨v24, rfl, ho24⟩, hk24⟩; have HO24 := hid ho24; have HK24 := hid (HK20.out.trans hk24); have HL24 := hid (HL20.out.trans hk24); have HM24 := hid hk24; clear ho24 hk24) | (gi_at_call 77; refine (callsIn_wide.2 (sum_any A7 M c7 (encSnap x) HM.out (by omega) _ (HF.out.step HM20.out).now)).mono ?_; rintro e w' ⟨rfl, rfl⟩) | (gi_at_call 75; refine (callsIn_wide.2 (put_any v15 _ M (by omega) hr1.out.1 _ (own_rb HO15.out))).mono ?_; rintro e w20 ⟨⟨v20, rfl, ho20⟩, hk20⟩; have HO20 := hid ho20; have HK20 := hid (HK15.out.trans hk20); have HL20 := hid (HL15.out.trans hk20); have HM20 := hid hk20; clear ho20 hk20))
  have e24 : [] ++ enc (zig x.index) ++ enc (zig x.term) ++ enc M ++ enc (crcB (encSnap x)) = headB x := by simp [headB, encZg, HM.out]
  have ho24 : w24.ownsRow W.heap.size 5 1 v24 (headB x).length (u8s (headB x)) := by
    have h1 := World.ownsRow.mono (base' := W.heap.size) HO24.out HK20.out.size
    rwa [e24] at h1
  obtain ⟨A24, c24, rfl⟩ := own_shape ho24
  have HF24 := hid (own_footA ho24)
  have hhl := headB_len x
  have hb24 := blk_cell (HL24.out.heap b27.out trivial)
  have HF7 := hid (HF.out.step (HM20.out.trans HM24.out))
  clear hr1 HO15 HO20 HO24 ho24 e24 HB15 HL15 HL20 HK15 HK20 HM20 HM24 HF h64 h65 hcr hi1 hi2 ht1 ht2
  have hk24d : Kp All W w24.drew := HK24.out.drew
  have HC := hid (show CallsIn Fence.wide (n - 1) Tryz.prog 78 #[.slice A24 (headB x).length c24] w24.drew (fun e w27 => ∃ A27 c27 fn tmps assign body, e = .returned (.slice A27 (frameB (headB x)).length c27) ∧
      (Instr.yield l #[.slice A27 (frameB (headB x)).length c27]).run Tryz.prog w27 = .ok (.round l fn tmps assign body) w27 ∧
      Hid (RoundIn Fence.wide (n - 1) Tryz.prog l fn tmps assign body w27 fun e W' => e = .returned (.bool true) ∧ J [(A27, (frameB (headB x)).length, c27)] W' ∧ Rk B w27 W' ∧ KeepsFrom W.heap.size w27 W') ∧
      (∀ i, w27.cell? ⟨W.heap.size, i, none⟩ = (#[.func (.yield l) #[] #[]] : Array Value)[i]?) ∧ Hid (Kp All w7 w27) ∧ Hid (Kp All W w27) ∧ Hid (FrA B W.heap.size (A27, (frameB (headB x)).length, c27) (frameB (headB x)) w27)) from by
    refine (callsIn_wide.2 (frame_any A24 _ c24 (headB x) rfl (by omega) w24.drew (HF24.out.step (Kp.refl _ _).drew))).mono ?_
    rintro e w27 ⟨⟨v27, rfl, ho27⟩, hk27⟩
    obtain ⟨A27, c27, rfl⟩ := own_shape ho27
    have hkW := hk24d.trans hk27
    have hk7 : Kp All w7 w27 := HL24.out.drew.trans hk27
    have hfr : FrA B W.heap.size (A27, (frameB (headB x)).length, c27) (frameB (headB x)) w27 := fra_new (W := w24.drew) (Nat.lt_of_lt_of_le hB HK24.out.size) (pv_grown hB (HP.out _ _ H0.out) hk24d) HK24.out.size ho27 hk27
    obtain ⟨fn, tmps, assign, body, hy, hR⟩ := HY.out (n - 1) [] (A27, (frameB (headB x)).length, c27) w27 (HJ.out _ W w27 none H0.out (grown_kp hkW) (fun r e => by cases e)) (by simp)
    exact ⟨A27, c27, fn, tmps, assign, body, rfl, hy, hid hR, blk_cell (hk7.heap b27.out trivial), hid hk7, hid hkW, hid hfr⟩)
  have hB7 : B < w7.heap.size := by have := K7.out.size; exact Nat.lt_of_lt_of_le hB this
  refine wpIn_on (fun a' w28 => ∃ (A27 : Option Addr) (c27 : Nat) (u4 u6 u7 u8 u9 u10 u11 u12 u13 u14 u15 u16 u17 u18 u19 u20 u21 u22 u23 u24 u25 u26 u27 u28 : Value), a' = { tmps := #[.func (.yield l) #[] #[], .pointer (some ⟨bs, 0, none⟩), .pointer (some ⟨W.heap.size, 0, none⟩), .slice A7 M c7, u4, undef, u6, u7, u8, u9, u10, u11, u12, u13, u14, u15, u16, u17, u18, u19, u20, u21, u22, u23, u24, u25, u26, u27, u28, .bool false, undef, undef, undef, undef, undef, undef, undef, undef], defers := [] } ∧
    Hid (J [(A27, (frameB (headB x)).length, c27)] w28) ∧ Hid (Rk B w7 w28) ∧ Hid (KeepsFrom W.heap.size w7 w28) ∧ Hid (FrA B W.heap.size (A27, (frameB (headB x)).length, c27) (frameB (headB x)) w28)) ?_ ?_
  · gi_region_with (first | (gi_at_call 78; refine HC.out.mono ?_; rintro e w27 ⟨A27, c27, fn, tmps, assign, body, rfl, hy, HRR, hb27, HL27, HK27, HR27⟩) | (refine HRR.out.mono ?_; rintro e w28 ⟨rfl, hJ28, hk28, hf28⟩))
    all_goals exact ⟨A27, c27, _, _, _, _, _, _, _, _, _, _, _, _, _, _, _, _, _, _, _, _, _, _, _, _, rfl, hid hJ28, hid ((Rk.of_kp hB7 HL27.out).trans hk28), hid ((kf_kp HL27.out).trans hf28), hid (HR27.out.rk hk28)⟩
  rintro a' w28 ⟨A27, c27, u4, u6, u7, u8, u9, u10, u11, u12, u13, u14, u15, u16, u17, u18, u19, u20, u21, u22, u23, u24, u25, u26, u27, u28, rfl, HJ28, HK28, HF28, HR28⟩
  dsimp only
  have hkf : Fence.wide.fn 121 := trivial
  gi_wp2_with (gi_at_call 79; refine (callsIn_wide.2 (chunk_any A7 M c7 _)).mono ?_; rintro e w' ⟨rfl, rfl⟩)
  obtain ⟨W2, hW2⟩ : ∃ W2, W2 = (w28.alloc (.cells #[.slice A7 M c7] 25)).alloc (.cells #[.int .i64 4096] 3) := ⟨_, rfl⟩
  have k2 : Kp All w28 W2 := hW2 ▸ (Kp.al _ _).trans (Kp.al _ _)
  have B1 : W2.heap[w28.heap.size]? = some (.cells #[.slice A7 M c7] 25 (0, 0)) := hW2 ▸ blk_alloc (blk_new w28 _) _
  have B2 : W2.heap[w28.heap.size + 1]? = some (.cells #[.int .i64 4096] 3 (0, 0)) := by rw [hW2]; have := blk_new (w28.alloc (.cells #[.slice A7 M c7] 25)) (.cells #[.int .i64 4096] 3); rwa [World.size_alloc] at this
  rw [← hW2]
  clear hW2
  obtain ⟨g, cur, hg, hgc, hgb⟩ : ∃ g cur, A7 = some ⟨g, 0, none⟩ ∧ w7.heap[g]? = some (.cells cur 5 (0, 0)) ∧ W.heap.size ≤ g := by
    rcases own_at HO7.out with ⟨h1, h2, _⟩ | ⟨g, cap, cur, h1, h2, h3, _⟩
    · exact absurd h2 (by rw [HM.out]; exact Nat.ne_of_gt hM0)
    · injection h1 with h1 _ _
      exact ⟨g, cur, h1, h2, h3⟩
  subst hg
  have hmc : M ≤ c7 := by have := HF7.out.now.2.1; exact this
  have hpg : ¬ Pv B w7 g := fun e => by
    have := HP.out _ _ H0.out _ ((Pv.same (K7.out.block B hB trivial) g).1 e)
    omega
  have hB28 : B < w28.heap.size := Nat.lt_of_lt_of_le hB7 HK28.out.size
  have hB2 : B < W2.heap.size := Nat.lt_of_lt_of_le hB28 k2.size
  have hp2 : ∀ b, Pv B W2 b → b < w28.heap.size := fun b e => HP.out _ _ HJ28.out b ((Pv.same (k2.block B hB28 trivial) b).1 e)
  have rk2 : Rk B w7 W2 := HK28.out.trans (Rk.of_kp hB28 k2)
  have hsz : W.heap.size ≤ W2.heap.size := Nat.le_trans (Nat.le_trans K7.out.size HK28.out.size) k2.size
  have HRK2 := hid rk2; have HP2 := hid hp2
  have HF0 := hid HF7
  refine wpIn_rangeFunc_ownG (n := n) rfl (by omega) (gf := 121) (lb := #[.pointer (some ⟨w28.heap.size, 0, none⟩), .pointer (some ⟨w28.heap.size + 1, 0, none⟩)]) rfl trivial (enters_of Tryz.func121 (by kernel_rfl) rfl)
    (encs := fun k : Nat => #[chV g 0 M k]) (chunk_stops (n - 1) (by omega) B w28.heap.size (w28.heap.size + 1) g 0 M c7 hmc (by omega) W2 hB2 B1 B2 (fun e => by have := hp2 _ e; omega) (fun e => by have := hp2 _ e; omega))
    (fun h k => h.trans k) (fun W' l' o o' hl ho hc _ => Rk.putObj (Nat.lt_of_lt_of_le hB2 hl) ho hc) (Below.refl _ _) (fun _ => rfl)
    (fun ks W' => ∃ xs : List Hd, Hid (J xs W') ∧ Hid (Rk B w7 W') ∧ Hid (FrOk B W.heap.size xs (frameB (headB x) :: ks.map fun k => frameB (chunkL (encSnap x) k)) W'))
    (fun _ _ _ => False)
    (fun ks X Y row ⟨xs, h1, h2, h3⟩ hgr hr => by
      have hX : B < X.heap.size := Nat.lt_of_lt_of_le hB7 h2.out.size
      have hrk : Rk B X Y := rk_grown hB2 hX hgr hr
      exact ⟨xs, hid (HJ.out _ X Y row h1.out hgr (fun r e => ⟨Nat.le_trans hsz (hr r e).1, (hr r e).2⟩)), hid (h2.out.trans hrk), hid (h3.out.rk hrk)⟩)
    (fun _ _ _ _ _ hs _ _ => hs)
    ⟨[_], hid (HJ.out _ w28 W2 none HJ28.out (grown_kp k2) (fun r e => by cases e)), hid rk2, hid (((FrOk.nil B W.heap.size w28).snoc HR28.out).rk (Rk.of_kp hB28 k2))⟩
    (fun y => { tmps := #[.func (.yield l) #[] #[], .pointer (some ⟨bs, 0, none⟩), .pointer (some ⟨W.heap.size, 0, none⟩), .slice (some ⟨g, 0, none⟩) M c7, u4, chV g 0 M y, u6, u7, u8, u9, u10, u11, u12, u13, u14, u15, u16, u17, u18, u19, u20, u21, u22, u23, u24, u25, u26, u27, u28, .bool false, .slice (some ⟨g, 0, none⟩) M c7, .func (.func 121) #[] #[.pointer (some ⟨w28.heap.size, 0, none⟩), .pointer (some ⟨w28.heap.size + 1, 0, none⟩)], chV g 0 M y, undef, undef, undef, undef, undef], defers := [] }) ?assign ?body ?done ?stop
  case assign =>
    intro l' y W' K hK
    gi_wp2
    exact hK
  case stop =>
    rintro D c pre W' _ _ h _
    exact h.elim
  case body =>
    rintro l2 pre y W' ⟨xs, hJx, hRx, hFx⟩ hlt
    have hxs : xs.length < 1000 := by
      have h1 := hFx.out.1
      rw [List.length_cons, List.length_map] at h1
      omega
    have hcv : chV g 0 M y = .slice (some ⟨g, 0 + 4096 * y, none⟩) (chunkL (encSnap x) y).length (chunkL (encSnap x) y).length := by
      rw [chunkL_len, HM.out]; rfl
    have hle : (chunkL (encSnap x) y).length ≤ 4096 := by rw [chunkL_len]; unfold clen; omega
    have hB3 : B < W'.heap.size := Nat.lt_of_lt_of_le hB7 hRx.out.size
    have hpw : ¬ Pv B w7 W.heap.size := fun e => by
      have := HP.out _ _ H0.out _ ((Pv.same (K7.out.block B hB trivial) _).1 e)
      omega
    have hbw : W'.heap[W.heap.size]? = some (.cells #[.func (.yield l) #[] #[]] 107 (0, 0)) := hRx.out.same _ _ b27.out rfl hpw
    have hc2 := blk_cell hbw
    have hsl : Foot All (Sl (some ⟨g, 0 + 4096 * y, none⟩) (chunkL (encSnap x) y).length (chunkL (encSnap x) y).length 1 (u8s (chunkL (encSnap x) y))) W'.drew := by
      have h7 := (own_footA HO7.out).now
      rw [HM.out] at h7
      have h8 := sl_chunk (y := y) HM.out (sl_block h7 ((hRx.out.same _ _ hgc rfl hpg).trans hgc.symm))
      rw [← HM.out, ← chunkL_len] at h8
      intro u hu
      exact sl_block h8 (hu.block g (blk_lt (hRx.out.same _ _ hgc rfl hpg)) trivial)
    have hc3 := (show ∀ k, CallsIn (Fence.wide.inRound l2) k Tryz.prog 78 #[.slice (some ⟨g, 0 + 4096 * y, none⟩) (chunkL (encSnap x) y).length (chunkL (encSnap x) y).length] W'.drew (fun e w3 => ∃ A3 c3 fn tmps assign body, e = .returned (.slice A3 (frameB (chunkL (encSnap x) y)).length c3) ∧
        (Instr.yield l #[.slice A3 (frameB (chunkL (encSnap x) y)).length c3]).run Tryz.prog w3 = .ok (.round l fn tmps assign body) w3 ∧
        Hid (∀ k', RoundIn (Fence.wide.inRound l2) k' Tryz.prog l fn tmps assign body w3 fun e W4 => e = .returned (.bool true) ∧ J (xs ++ [(A3, (frameB (chunkL (encSnap x) y)).length, c3)]) W4 ∧ Rk B w3 W4 ∧ KeepsFrom W.heap.size w3 W4) ∧
        (∀ i, w3.cell? ⟨W.heap.size, i, none⟩ = (#[.func (.yield l) #[] #[]] : Array Value)[i]?) ∧ Hid (Kp All W' w3) ∧ Hid (FrA B W.heap.size (A3, (frameB (chunkL (encSnap x) y)).length, c3) (frameB (chunkL (encSnap x) y)) w3)) from by
      intro k
      refine CallsIn.inRound l2 ((callsIn_wide.2 (frame_any (some ⟨g, 0 + 4096 * y, none⟩) _ _ (chunkL (encSnap x) y) rfl (by omega) W'.drew hsl)).mono ?_)
      rintro e w3 ⟨⟨v3, rfl, ho3⟩, hk3⟩
      obtain ⟨A3, c3, rfl⟩ := own_shape ho3
      have hk3' : Kp All W' w3 := (Kp.refl _ W').drew.trans hk3
      have hfr : FrA B W.heap.size (A3, (frameB (chunkL (encSnap x) y)).length, c3) (frameB (chunkL (encSnap x) y)) w3 := fra_new (W := W'.drew) hB3 (fun b e => HP.out _ _ hJx.out b ((Pv.same rfl b).1 e)) (Nat.le_trans K7.out.size hRx.out.size) ho3 hk3
      obtain ⟨fn, tmps, assign, body, hy, hR⟩ := HY.out 0 xs (A3, (frameB (chunkL (encSnap x) y)).length, c3) w3 (HJ.out _ W' w3 none hJx.out (grown_kp hk3') (fun r e => by cases e)) hxs
      exact ⟨A3, c3, fn, tmps, assign, body, rfl, hy, hid fun k' => roundIn_any hR, blk_cell (hk3'.heap hbw trivial), hid hk3', hid hfr⟩)
    have hf5' : (Fence.wide.inRound l2).fn 78 := trivial
    have hn3 : 1 ≤ n - 1 - 1 := by omega
    obtain ⟨oy, hoy⟩ : ∃ oy, 0 + 4096 * y = oy := ⟨_, rfl⟩
    obtain ⟨E, hE⟩ : ∃ E, (chunkL (encSnap x) y).length = E := ⟨_, rfl⟩
    rw [hoy, hE] at hc3 hcv
    have HC2 := hid hc3
    clear hsl hc3 hoy
    dsimp only
    rw [hcv]
    clear hcv
    gi_wp2
    refine wpIn_on (fun a' w28 => ∃ (A3 : Option Addr) (c3 : Nat) (t : Array Value), a' = { tmps := t, defers := [] } ∧ t[37]? = some (.bool false) ∧
      Hid (J (xs ++ [(A3, (frameB (chunkL (encSnap x) y)).length, c3)]) w28) ∧ Hid (Rk B W' w28) ∧ Hid (KeepsFrom W.heap.size W' w28) ∧ Hid (FrA B W.heap.size (A3, (frameB (chunkL (encSnap x) y)).length, c3) (frameB (chunkL (encSnap x) y)) w28)) ?_ ?_
    · gi_region_with (first | (gi_at_call 78; refine (HC2.out _).mono ?_; rintro e w3 ⟨A3, c3, fn, tmps, assign, body, rfl, hy, HRR, hb3, HL3, HR3⟩) | (refine (HRR.out _).mono ?_; rintro e w4 ⟨rfl, hJ4, hk4, hf4⟩))
      all_goals exact ⟨A3, c3, _, rfl, rfl, hid hJ4, hid ((Rk.of_kp hB3 HL3.out).trans hk4), hid ((kf_kp HL3.out).trans hf4), hid (HR3.out.rk hk4)⟩
    rintro a' w4 ⟨A3, c3, t, rfl, ht, HJ4, HK4, HF4, HR4⟩
    gi_wp2
    have hev : ({ tmps := t, defers := [] } : Act).eval (.tmp 37) = .bool false := by
      show t.getD 37 undef = _
      rw [Array.getD_eq_getD_getElem?, ht]; rfl
    refine wpIn_cond_false hev ?_
    gi_wp2
    refine ⟨⟨HF4.out.size, fun k o hk ho hc => HF4.out.same k o (Nat.le_trans hsz hk) ho hc⟩, HK4.out, xs ++ [_], HJ4, hid (hRx.out.trans HK4.out), ?_⟩
    have h9 := (hFx.out.rk HK4.out).snoc HR4.out
    rw [List.map_append, List.map_cons, List.map_nil, ← List.cons_append]
    exact hid h9
  case done =>
    rintro D ys W' hD hS ⟨xs, hJx, hRx, hFx⟩ hK
    subst hS
    gi_wp2
    refine ⟨by simp, .inl ⟨_, _, rfl, run_takeDeferred hK, ?_⟩⟩
    have hgr := grownBy_putObj' W' D (.deferred none)
    have hX : B < W'.heap.size := Nat.lt_of_lt_of_le hB7 hRx.out.size
    have hrk : Rk B W' (W'.putObj D (.deferred none)) := rk_grown (K := W2.heap.size) hB2 hX hgr (fun r e => by cases e; exact ⟨hD, _, hK, rfl⟩)
    refine ⟨_, results_none rfl _ _ _, ⟨_, rfl⟩, xs, HJ.out _ W' _ _ hJx.out hgr (fun r e => by cases e; exact ⟨Nat.le_trans hsz hD, _, hK, rfl⟩), ?_, (Rk.of_kp hB (Kp.undrew K7.out)).trans (hRx.out.trans hrk)⟩
    have h1 := hFx.out.rk hrk
    have h2 : chunksB x = frameB (headB x) :: (List.range ((M + 4095) / 4096)).map fun k => frameB (chunkL (encSnap x) k) := by
      rw [chunksB, partsB_range, List.map_map, HM.out]; rfl
    rw [h2]
    exact h1
end Go.Proofs.YtbkhademplgicaaGreatDoor

namespace Go.Proofs.YtbkhademplgicaaGreatDoor
open Go.RowKit Go.Shelf
set_option linter.unusedVariables false
set_option linter.unusedSimpArgs false
theorem KeepsFrom.of_grownBy' {B j : Nat} {W W' : World} (hg : W.grownBy W' (some j)) (hj : j < B) : KeepsFrom B W W' := KeepsFrom.of_grownBy hg (fun i e => by cases e; exact hj)
theorem range_own {α : Type} {P : Program} {n : Nat} {g : Operand} {ps : Array Tmp} {assign body : Code} {Q : Exit → Act → World → Prop} {a : Act} {w : World}
    (hn : 1 ≤ n) {gf : Nat} {lb : Array Value} (hg : a.eval g = .func (.func gf) #[] lb) (eg : ∀ args w, (callFunc gf args).run P w = .ok (.enter gf args) w)
    {encs : α → Array Value} (hps : ∀ x, (encs x).size = ps.size) (B N : Nat) (hB : B < w.heap.size) (Out : List α → World → World → Prop) (hOut : ∀ xs W0 X Y, Out xs W0 X → Rk B X Y → Out xs W0 Y)
    (hseq : ∀ (l : Nat) (J : List α → World → Prop) (W : World), Kp All w W → OwnFrom W.heap.size J → (∀ pre W', J pre W' → ∀ b, Pv B W' b → b < W'.heap.size) →
      (∀ (m : Nat) pre x W1, J pre W1 → pre.length < N → YieldAt Fence.wide m P l (encs x) W1 fun e W' => e = .returned (.bool true) ∧ J (pre ++ [x]) W' ∧ Rk B W1 W' ∧ KeepsFrom W.heap.size W1 W') → J [] W →
      CallsIn Fence.wide (n - 1) P gf (#[.func (.yield l) #[] #[]] ++ lb) W fun e W' => (∃ v, e = .returned v) ∧ ∃ xs, J xs W' ∧ Out xs W W')
    (I : List α → World → Prop) (hI : OwnFrom w.heap.size I) (hIp : ∀ pre W', I pre W' → ∀ b, Pv B W' b → b < W'.heap.size) (h0 : I [] w) (a₁ : α → Act)
    (hassign : ∀ (l k : Nat) (x : α) (W : World) (K : Act → World → Prop), K (a₁ x) W →
      assign.wpIn (Fence.wide.inRound l) k P (Exit.then K (fun _ _ _ => False)) { tmps := (ps.zip (encs x)).foldl (fun t (p, v) => t.setIfInBounds p v) a.tmps, defers := [] } W)
    (hbody : ∀ (l k : Nat) (pre : List α) (x : α) (W : World), I pre W → pre.length < N → body.wpIn (Fence.wide.inRound l) k P (on fun _ W' => KeepsFrom w.heap.size W W' ∧ Rk B W W' ∧ I (pre ++ [x]) W') (a₁ x) W)
    (hdone : ∀ (D : Nat) (xs : List α) (W0 W : World), w.heap.size ≤ D → Kp All w W0 → I xs W → Out xs W0 W → W.heap[D]? = some (.deferred (some [])) → Q .normal { a with defers := { target := .collected D, args := #[] } :: a.defers } W) :
    (Code.rangeFunc g ps assign body).wpIn Fence.wide n P Q a w := by
  refine wpIn_rangeFunc fun fn hfn => ?_
  obtain ⟨r0, hr0⟩ : ∃ r0 : LoopState → Loop, r0 = fun st => { state := st, pending := none, fn, tmps := a.tmps, params := ps, assign, body, defers := w.heap.size } := ⟨_, rfl⟩
  obtain ⟨V, hV⟩ : ∃ V, (w.alloc (.deferred (some []))).alloc (.loop (r0 .ready)) = V := ⟨_, rfl⟩
  have kV : Kp All w V := hV ▸ (Kp.al _ _).trans (Kp.al _ _)
  have zV : V.heap.size = w.heap.size + 2 := by rw [← hV]; simp
  have rec0 : V.heap[w.heap.size + 1]? = some (.loop (r0 .ready)) := by
    rw [← hV]
    have := World.alloc_heap_new (w.alloc (.deferred (some []))) (.loop (r0 .ready))
    rwa [World.size_alloc] at this
  have def0 : V.heap[w.heap.size]? = some (.deferred (some [])) := by
    rw [← hV]
    exact (Below.heap_alloc _ _ _ (by simp)).trans (World.alloc_heap_new w _)
  refine ⟨w.heap.size + 1, [{ target := .collected w.heap.size, args := #[] }], V, { target := .fn (.func gf) lb, args := #[.func (.yield (w.heap.size + 1)) #[] #[]] }, V, gf, #[.func (.yield (w.heap.size + 1)) #[] #[]] ++ lb, V, ?_, ?_, ?_, ?_, fun _ => hn, ?_⟩
  · rw [← hV, hr0]
    exact run_enterLoop_outer _ _ _ _ _
  · simp only [resolve, hg]
    simp [go_sem]
  · intro _ _; trivial
  · simp [invoke, go_sem, eg]
  -- the loop's books: the record stands ready, the block of deferred calls empty
  refine (hseq (w.heap.size + 1) (fun pre W => I pre W ∧ W.heap[w.heap.size + 1]? = some (.loop (r0 .ready)) ∧ W.heap[w.heap.size]? = some (.deferred (some []))) V kV ?_ (fun pre W h => hIp pre W h.1) ?_ ⟨hI _ w V none h0 (grown_kp kV) (fun r e => by cases e), rec0, def0⟩).mono ?_
  · intro pre X Y row h hgr hr
    refine ⟨hI pre X Y row h.1 hgr (fun r e => ⟨by have := (hr r e).1; omega, (hr r e).2⟩), ?_, ?_⟩
    · exact (hgr.block _ (Array.getElem?_eq_some_iff.1 h.2.1).1 (fun e => by have := (hr _ e.symm).1; omega)).trans h.2.1
    · exact (hgr.block _ (Array.getElem?_eq_some_iff.1 h.2.2).1 (fun e => by have := (hr _ e.symm).1; omega)).trans h.2.2
  · -- a round
    rintro m pre x W ⟨hi, hl, hd⟩ hlen
    have hy := run_yield (P := P) (args := encs x) hl (by rw [hr0]; exact hps x)
    rw [hr0] at hy
    refine ⟨fn, _, assign, body, hy, roundIn_of_wpIn hfn (hassign _ m x W _ ?_)⟩
    have hlt := (Array.getElem?_eq_some_iff.1 hl).1
    have hb1 := run_beginRound (P := P) hl (by rw [hr0])
    refine ⟨_, hb1, ?_⟩
    obtain ⟨X, hX⟩ : ∃ X, W.putObj (w.heap.size + 1) (.loop { r0 .ready with state := .busy }) = X := ⟨_, rfl⟩
    rw [hX]
    have lX : X.heap[w.heap.size + 1]? = some (.loop { r0 .ready with state := .busy }) := by rw [← hX]; exact World.putObj_heap_same hlt
    have dX : X.heap[w.heap.size]? = some (.deferred (some [])) := by rw [← hX]; exact (World.putObj_heap_other (by omega)).trans hd
    have iX : I pre X := by rw [← hX]; exact hI.putObj _ hi (by omega) hl rfl
    have rX : Rk B W X := by rw [← hX]; exact Rk.putObj (by omega) hl rfl
    have fX : KeepsFrom V.heap.size W X := by rw [← hX]; exact KeepsFrom.of_grownBy' (grownBy_putObj' W _ _) (by omega)
    refine wpIn_mono (hbody _ m pre x X iX hlen) ?_
    intro e a3 Y hY
    cases e
    case normal =>
      obtain ⟨kY, rY, iY⟩ := hY
      have lY := kY.same _ _ (by omega) lX rfl
      have dY := kY.same _ _ (Nat.le_refl _) dX rfl
      have hlt2 := (Array.getElem?_eq_some_iff.1 lY).1
      have hend := run_endRound (P := P) none lY
      refine ⟨_, _, hend, rfl, ⟨hI.putObj _ iY (by omega) lY rfl, ?_, (World.putObj_heap_other (by omega)).trans dY⟩, rX.trans (rY.trans (Rk.putObj (by omega) lY rfl)), ?_⟩
      · rw [World.putObj_heap_same hlt2, hr0]; rfl
      · exact fX.trans ((⟨kY.size, fun k o hk ho hc => kY.same k o (by omega) ho hc⟩ : KeepsFrom V.heap.size X Y).trans (KeepsFrom.of_grownBy' (grownBy_putObj' Y _ _) (by omega)))
    all_goals exact hY.elim
  · -- behind the iterator
    rintro e W ⟨⟨v, rfl⟩, xs, ⟨hi, hl, hd⟩, ho⟩
    have hend := run_endLoop (P := P) hl (by rw [hr0]; simp)
    have hp : (r0 .ready).pending = none := by rw [hr0]
    rw [hp] at hend
    exact ⟨none, _, hend, hdone _ xs V _ (Nat.le_refl _) kV (hI.putObj _ hi (by omega) hl rfl) (hOut _ _ _ _ ho (Rk.putObj (by omega) hl rfl)) ((World.putObj_heap_other (by omega)).trans hd)⟩
end Go.Proofs.YtbkhademplgicaaGreatDoor

namespace Go.Proofs.YtbkhademplgicaaGreatDoor
open Go.RowKit Go.Shelf
set_option linter.unusedVariables false
set_option linter.unusedSimpArgs false
attribute [local go_sem] Oper.semAt_some
/-- Append in a walk: the new header bears the old block, or a new one. -/
theorem append_at {F : Fence} {n : Nat} {P : Program} (w : World) {ops : Array Oper} {rest : List Oper} {o : Oper} {a : Act} {Q : Exit → Act → World → Prop}
    (hg : o.guard = none) (s x : Operand) (t : TypeId) (hop : o.op = Op.call { callee := Callee.builtin Builtin.append, args := #[s, x], argTypes := #[t, t] })
    (base : Nat) (e : TypeId) (i : TypeInfo) (z : Value) (size bytes : Nat) (h1 : P.underlying t = some (.slice e)) (h2 : P.info? e = some i) (h3 : i.zero = some z) (h4 : i.size = size) (h5 : i.bytes = bytes) (h6 : z.cells.size = size) (h7 : 0 < size)
    (v : Value) (k : Nat) (xs : List Value) (hs : a.eval s = v) (hown : w.ownsRow base e size v k xs) (ad : Addr) (m c : Nat) (news : List Value) (hx : a.eval x = .slice (some ad) m c) (hn : news.length = m * size)
    (hc : ∀ j u, news[j]? = some u → w.cell? (ad.add j) = some u) (h1c : ∀ u ∈ news, u.oneCell' = true) (b1 : k + m ≤ maxLen) (b2 : (k + m) * bytes ≤ 140737488355328) (b3 : base ≤ w.heap.size)
    (hK : ∀ v' w', w'.ownsRow base e size v' (k + m) (xs ++ news) → w.grownBy w' v.ownBlock → (v'.ownBlock = v.ownBlock ∨ v'.ownBlock = some w.heap.size) → wpListIn F n P ops Q rest (a.put o.dst v') w') :
    wpListIn F n P ops Q (o :: rest) a w := by
  refine wpListIn_plain hg fun K hK' => ?_
  obtain ⟨v', w', hrun, r1, r2, _, r3⟩ := run_append_own_at (P := P) w base t o.type e i z size bytes h1 h2 h3 h4 h5 h6 h7 v k xs hown ad m c news hn hc h1c b1 b2 b3
  unfold Oper.wpIn
  refine ⟨by simp [Oper.about, hop, resolve, Target.leads, Sem.run_pure], ?_⟩
  rw [Oper.semAt_plain F _ _ (by rw [hop]; intro c hc'; cases hc')]
  simp [execOp, hop, resolve, invoke, builtin, hs, hx, hrun, Result.andThen]
  exact hK' _ _ (hK v' w' r1 r2 r3)
def FrB (base : Nat) (xs : List Hd) (ls : List By) (w : World) : Prop := xs.length = ls.length ∧ ∀ (i : Nat) x l, xs[i]? = some x → ls[i]? = some l → w.ownsRow base 5 1 (hdV x) l.length (u8s l)
def ColP (w : World) (ls : List By) (e : Ending) (w' : World) : Prop := ∃ v xs, e = .returned v ∧ w'.ownsRow w.heap.size 25 1 v xs.length (xs.map hdV) ∧ FrB w.heap.size xs ls w' ∧ Kp All w w'
theorem pv_lt {B : Nat} {W : World} {v : Value} {base n e sz : Nat} {t : TypeId} {xs : List Value} (hv : Boxed W B t v) (hr : W.ownsRow base e sz v n xs) : ∀ b, Pv B W b → b < W.heap.size := by
  rintro b (rfl | ⟨A, n', c, t', fz, h, rfl⟩)
  · exact hv.lt
  · rw [show W.heap[B]? = _ from hv] at h
    injection h with h
    injection h with h _ _
    have hv' : v = .slice (some A) n' c := by simpa using h
    subst hv'
    rcases own_at hr with ⟨h1, _⟩ | ⟨g, cap, cur, h1, h2, _⟩
    · cases h1
    · injection h1 with h1 _ _
      injection h1 with h1
      subst h1
      exact blk_lt h2
theorem rk_append {B : Nat} {W w1 : World} {t : TypeId} {A : Option Addr} {n c : Nat} {v' : Value} {tmp : Obj} (hv : Boxed W B t (.slice A n c)) (hg : (W.alloc tmp).grownBy w1 (Value.slice A n c).ownBlock)
    (hor : v'.ownBlock = (Value.slice A n c).ownBlock ∨ v'.ownBlock = some (W.alloc tmp).heap.size) (hv2 : Boxed (w1.setCell ⟨B, 0, none⟩ v') B t v') : Rk B W (w1.setCell ⟨B, 0, none⟩ v') := by
  have hs := grownBy_setCell' w1 B v'
  have ha : W.heap.size ≤ (W.alloc tmp).heap.size := by simp
  refine ⟨hs.os.trans hg.os, hs.tape.trans hg.tape, hs.output.trans hg.output, Nat.le_trans ha (Nat.le_trans hg.size hs.size), fun b o hb hc hp => ?_, fun b hb e => ?_⟩
  · have hbl := (Array.getElem?_eq_some_iff.1 hb).1
    have h1 : b ≠ B := fun e => hp (.inl e)
    have h2 : some b ≠ (Value.slice A n c).ownBlock := fun e => by
      cases A with
      | none => cases e
      | some a =>
        injection e with e
        exact hp (.inr ⟨a, n, c, t, (0, 0), hv, e.symm⟩)
    rw [hs.block b (by have := hg.size; omega) (fun e => h1 (by injection e)), hg.block b (by omega) h2]
    exact (Below.heap_alloc W tmp b hbl).trans hb
  · rcases e with rfl | ⟨a, n', c', t', fz, h, rfl⟩
    · exact .inl rfl
    · rw [show (w1.setCell ⟨B, 0, none⟩ v').heap[B]? = _ from hv2] at h
      injection h with h
      injection h with h _ _
      have hv' : v' = .slice (some a) n' c' := by simpa using h
      subst hv'
      rcases hor with e | e
      · cases A with
        | none => cases e
        | some a' =>
          injection e with e
          exact .inr ⟨a', n, c, t, (0, 0), hv, e.symm⟩
      · injection e with e
        omega
theorem info_u8s : (Tryz.prog.info? 25).map (fun i => (i.zero, i.size, i.bytes)) = some (some (.slice none 0 0), 1, 24) := by kernel_rfl
set_option maxRecDepth 100000 in
set_option maxHeartbeats 2000000 in
theorem appseq_any (bs : Nat) (x : Sn) (VA LA DA : Option Addr) (vn vc ln lc dn dc : Nat) (hlen : 9 * (vn + ln) + dn ≤ 1500000) (w : World)
    (hb : w.heap[bs]? = some (.cells #[.int .i64 x.index, .int .i64 x.term, .slice VA vn vc, .slice LA ln lc, .slice DA dn dc] 27 (0, 0))) (hs : Snp x VA LA DA vn vc ln lc dn dc w) :
    Calls Tryz.prog 72 #[.slice none 0 0, .func (.func 73) #[] #[.pointer (some ⟨bs, 0, none⟩)]] w (ColP w (chunksB x)) := by
  refine (callsIn_wide (n := 8)).1 ?_
  obtain ⟨i0, hi, hz0, hz1, hz2⟩ := info_parts info_u8s
  refine callsIn_of_wp_marks Tryz.func72 rfl trivial ?_ rfl
  simp only [Tryz.ntmps72, List.size_toArray, List.length_cons, List.length_nil, Nat.reduceAdd, Nat.reduceSub, Array.replicate_succ, Array.replicate_zero, List.push_toArray, List.append_toArray, List.nil_append, List.cons_append]
  have bO := Boxed.new w 32 (.slice none 0 0)
  have k1 := Kp.al w (.cells #[.slice none 0 0] 32)
  gi_wp2
  refine range_own (α := Hd) (n := 8) (by omega) (gf := 73) (lb := #[.pointer (some ⟨bs, 0, none⟩)]) rfl (enters_of Tryz.func73 (by kernel_rfl) rfl) (encs := fun y : Hd => #[hdV y]) (fun _ => rfl) w.heap.size 1000 (by simp)
    (fun xs W0 W' => FrOk w.heap.size W0.heap.size xs (chunksB x) W' ∧ w.heap.size ≤ W0.heap.size) (fun _ _ _ _ h k => ⟨h.1.rk k, h.2⟩)
    (fun l J W hW hJ hJp hY h0 => (parts1_in 7 (by omega) l w.heap.size bs x VA LA DA vn vc ln lc dn dc hlen J W hJ (Nat.lt_of_lt_of_le (by simp) hW.size) hJp hY ((k1.trans hW).heap hb trivial) (hs.step (k1.trans hW)) h0).mono
      (fun e W' ⟨h1, xs, h2, h3, _⟩ => ⟨h1, xs, h2, h3, (k1.trans hW).size⟩))
    (fun pre W => (∃ v, Boxed W w.heap.size 32 v ∧ W.ownsRow w.heap.size 25 1 v pre.length (pre.map hdV) ∧ True) ∧ Below w.heap.size w W)
    (OwnFrom.and (Own.from (holdsRow_own w.heap.size w.heap.size 32 25 1 (fun pre : List Hd => pre.length) (fun pre => pre.map hdV) (fun pre v => True)) _) (ownFrom_below (Nat.le_refl _) (by simp)))
    (fun pre W' ⟨⟨v, h1, h2, _⟩, _⟩ => pv_lt h1 h2)
    ⟨⟨_, bO, World.ownsRow_nil _ _ _ _, trivial⟩, (Below.refl _ w).alloc (Nat.le_refl _) _⟩
    (fun y => { tmps := #[.slice none 0 0, .func (.func 73) #[] #[.pointer (some ⟨bs, 0, none⟩)], .pointer (some ⟨w.heap.size, 0, none⟩), undef, .slice none 0 0, hdV y, .func (.func 73) #[] #[.pointer (some ⟨bs, 0, none⟩)], hdV y, undef, undef, undef, undef, undef], defers := [] }) ?assign ?body ?done
  case assign =>
    intro l k y W K hK
    gi_wp2
    exact hK
  case body =>
    rintro l k pre ⟨yA, yn, yc⟩ W ⟨⟨v, hv, hrow, _⟩, hB⟩ hlt
    obtain ⟨VA', vc', rfl⟩ := own_shape hrow
    have hc := hv.cell
    have hf := hv.frozen
    dsimp only [hdV]
    gi_wp2_with (gi_at_builtin; refine append_at _ rfl _ _ 32 rfl w.heap.size 25 i0 (.slice none 0 0) 1 24 Tryz.underlying32 hi hz0 hz1 hz2 rfl (by decide) _ _ _ rfl (hrow.alloc _) ⟨W.heap.size, 0, none⟩ 1 1 [.slice yA yn yc] rfl rfl (cell_one_new _ _ _) (by simp [Value.oneCell', hdV]) (by have : (9223372036854775807 : Nat) ≤ maxLen := max63; omega) (by omega) (by have := hB.size; simp; omega) ?_; intro v' w1 hown' hgrow hor0; have HOR := hid hor0; clear hor0; have HGR := hid hgrow; obtain ⟨g', cap', rfl⟩ := ownsRow_succ hown'; obtain ⟨hv1, hv2, hr2, hk2, hb2⟩ := hv.appended (by decide) hrow hB.size (Nat.le_refl _) hown' hgrow; have hc1 := hv1.cell; have hf1 := hv1.frozen)
    exact ⟨hk2.from _, rk_append hv HGR.out HOR.out hv2, ⟨_, hv2, by simpa [hdV] using hr2, trivial⟩, hB.trans hb2⟩
  case done =>
    rintro D xs W0 W hD hW0 ⟨⟨v, hv, hrow, _⟩, hB⟩ ⟨hfr, hsz⟩ hK
    have hc := hv.cell
    obtain ⟨VA', vc', rfl⟩ := own_shape hrow
    gi_wp2
    refine ⟨by simp, .inl ⟨_, _, rfl, run_takeDeferred hK, ?_⟩⟩
    have hDw : w.heap.size ≤ D := by simp at hD; omega
    have hDl : w.heap.size < D := by simp at hD; omega
    have hfr2 := hfr.rk (Rk.putObj (o' := .deferred none) hDl hK rfl)
    exact ⟨_, results_tmp rfl _ _ _, _, xs, rfl, ownsRow_putObj hrow _ hK rfl, ⟨hfr2.1, fun i y l h1 h2 => World.ownsRow.mono (hfr2.2 i y l h1 h2).1 hsz⟩, Kp.of_below (hB.trans (belowK_b (w := w) (Nat.le_refl _) W D _ _ hDw hK rfl rfl)) (Nat.le_refl _)⟩
end Go.Proofs.YtbkhademplgicaaGreatDoor

namespace Go.Proofs.YtbkhademplgicaaGreatDoor
open Go.RowKit Go.Shelf
set_option linter.unusedVariables false
set_option linter.unusedSimpArgs false
theorem parts_any (x : Sn) (VA LA DA : Option Addr) (vn vc ln lc dn dc : Nat) (w : World) :
    Calls Tryz.prog 33 #[.agg #[.int .i64 x.index, .int .i64 x.term, .slice VA vn vc, .slice LA ln lc, .slice DA dn dc]] w fun e w' => e = .returned (.func (.func 73) #[] #[.pointer (some ⟨w.heap.size, 0, none⟩)]) ∧ w' = w.alloc (.cells #[.int .i64 x.index, .int .i64 x.term, .slice VA vn vc, .slice LA ln lc, .slice DA dn dc] 27) := by
  go_enter Tryz.func33, Tryz.ntmps33
  go_wp2_with fail
  go_ret
  exact ⟨rfl, rfl⟩
theorem collect_any (bs : Nat) (x : Sn) (VA LA DA : Option Addr) (vn vc ln lc dn dc : Nat) (hlen : 9 * (vn + ln) + dn ≤ 1500000) (w : World)
    (hb : w.heap[bs]? = some (.cells #[.int .i64 x.index, .int .i64 x.term, .slice VA vn vc, .slice LA ln lc, .slice DA dn dc] 27 (0, 0))) (hs : Snp x VA LA DA vn vc ln lc dn dc w) :
    Calls Tryz.prog 32 #[.func (.func 73) #[] #[.pointer (some ⟨bs, 0, none⟩)]] w (ColP w (chunksB x)) := by
  have HC := hid (appseq_any bs x VA LA DA vn vc ln lc dn dc hlen w hb hs)
  clear hb hs
  go_enter Tryz.func32, Tryz.ntmps32
  go_wp2_with fail
  refine HC.out.mono ?_
  rintro e w2 ⟨v, xs, rfl, ho, hf, hk⟩
  obtain ⟨A2, c2, rfl⟩ := own_shape ho
  obtain ⟨q, hq⟩ : ∃ q, xs.length = q := ⟨_, rfl⟩
  have HO := hid ho; have HF := hid hf; have HK := hid hk; have HQ := hid hq
  rw [hq]
  clear ho hf hk hq
  go_wp2_with fail
  go_ret
  exact ⟨_, xs, rfl, by have := HO.out; rwa [HQ.out] at this ⊢, HF.out, HK.out⟩
def ChP (w : World) (x : Sn) (e : Ending) (w' : World) : Prop := if goodSnap x = true then ColP w (chunksB x) e w' else e = .returned (.slice none 0 0) ∧ Kp All w w'
theorem FrB.mono {b b' : Nat} {xs : List Hd} {ls : List By} {w : World} (h : FrB b xs ls w) (hb : b' ≤ b) : FrB b' xs ls w := ⟨h.1, fun i y l h1 h2 => World.ownsRow.mono (h.2 i y l h1 h2) hb⟩
set_option maxRecDepth 100000 in
theorem chunks_any (x : Sn) (VA LA DA : Option Addr) (vn vc ln lc dn dc : Nat) (hlen : 9 * (vn + ln) + dn ≤ 1500000) (w : World) (hs : Snp x VA LA DA vn vc ln lc dn dc w) :
    Calls Tryz.prog 9 #[.agg #[.int .i64 x.index, .int .i64 x.term, .slice VA vn vc, .slice LA ln lc, .slice DA dn dc]] w (ChP w x) := by
  have b1 := blk_new w (.cells #[.int .i64 x.index, .int .i64 x.term, .slice VA vn vc, .slice LA ln lc, .slice DA dn dc] 27)
  have c1 := blk_cell b1
  have k1 := Kp.al w (.cells #[.int .i64 x.index, .int .i64 x.term, .slice VA vn vc, .slice LA ln lc, .slice DA dn dc] 27)
  have HS := hid (hs.step k1)
  have HB := hid b1; have HK1 := hid k1
  clear hs b1 k1
  by_cases hg : goodSnap x = true
  · have HP := hid (show ChP w x = ColP w (chunksB x) by funext e w'; unfold ChP; rw [if_pos hg])
    rw [HP.out]
    go_enter Tryz.func9, Tryz.ntmps9
    go_wp2_with fail
    refine (goodsnap_any x VA LA DA vn vc ln lc dn dc (by omega) (by omega) _ HS.out).mono ?_
    rintro e w2 ⟨rfl, hk2⟩
    rw [hg]
    have c2 := blk_cell (hk2.heap HB.out trivial)
    have HS2 := hid (HS.out.step hk2); have HK2 := hid (HK1.out.trans hk2)
    clear hk2
    go_wp2_with fail
    refine (parts_any x VA LA DA vn vc ln lc dn dc _).mono ?_
    rintro e w3 ⟨rfl, rfl⟩
    have hb3 := hid (blk_new w2 (.cells #[.int .i64 x.index, .int .i64 x.term, .slice VA vn vc, .slice LA ln lc, .slice DA dn dc] 27))
    have k3 := hid (Kp.al w2 (.cells #[.int .i64 x.index, .int .i64 x.term, .slice VA vn vc, .slice LA ln lc, .slice DA dn dc] 27))
    obtain ⟨W3, hW3⟩ : ∃ W3, W3 = w2.alloc (.cells #[.int .i64 x.index, .int .i64 x.term, .slice VA vn vc, .slice LA ln lc, .slice DA dn dc] 27) := ⟨_, rfl⟩
    rw [← hW3] at hb3 k3 ⊢
    clear hW3
    go_wp2_with fail
    refine (collect_any w2.heap.size x VA LA DA vn vc ln lc dn dc hlen _ hb3.out (HS2.out.step k3.out)).mono ?_
    rintro e w4 ⟨v, xs, rfl, ho, hf, hk⟩
    obtain ⟨A4, c4, rfl⟩ := own_shape ho
    have hz : w.heap.size ≤ W3.heap.size := (HK2.out.trans k3.out).size
    obtain ⟨q, hq⟩ : ∃ q, xs.length = q := ⟨_, rfl⟩
    have HO := hid (World.ownsRow.mono ho hz); have HF := hid (hf.mono hz); have HK := hid (HK2.out.trans (k3.out.trans hk)); have HQ := hid hq
    rw [hq]
    clear ho hf hk hq hz
    go_wp2_with fail
    go_ret
    exact ⟨_, xs, rfl, by have := HO.out; rwa [HQ.out] at this ⊢, HF.out, HK.out⟩
  · have hg' : goodSnap x = false := (Bool.not_eq_true _).mp hg
    have HP := hid (show ChP w x = fun e w' => e = .returned (.slice none 0 0) ∧ Kp All w w' by funext e w'; unfold ChP; rw [if_neg hg])
    rw [HP.out]
    go_enter Tryz.func9, Tryz.ntmps9
    go_wp2_with fail
    refine (goodsnap_any x VA LA DA vn vc ln lc dn dc (by omega) (by omega) _ HS.out).mono ?_
    rintro e w2 ⟨rfl, hk2⟩
    rw [hg']
    have HK2 := hid (HK1.out.trans hk2)
    clear hk2
    go_wp2_with fail
    go_ret
    exact ⟨rfl, HK2.out⟩
end Go.Proofs.YtbkhademplgicaaGreatDoor

namespace Go.Proofs.YtbkhademplgicaaGreatDoor
open Go.RowKit
set_option linter.unusedVariables false
set_option linter.unusedSimpArgs false
set_option maxRecDepth 100000 in
theorem equal_any (A A' : Option Addr) (n n' c c' : Nat) (xs ys : By) (hn : xs.length = n) (hn' : ys.length = n') (hl : n ≤ 9000000000000000000) (hl' : n' ≤ 9000000000000000000) (w : World) (h : Foot All (Sl A n c 1 (u8s xs)) w) (h' : Foot All (Sl A' n' c' 1 (u8s ys)) w) :
    Calls Tryz.prog 41 #[.slice A n c, .slice A' n' c'] w fun e w' => e = .returned (.bool (decide (xs = ys))) ∧ Kp All w w' := by
  have H := hid h; have H' := hid h'; have HN := hid hn; have HN' := hid hn'
  clear h h' hn hn'
  by_cases he : n = n'
  · subst he
    have bne : (!((n : Int) == (n : Int))) = false := by simp
    obtain ⟨r, hr⟩ : ∃ r, decide (xs = ys) = r := ⟨_, rfl⟩
    have HR := hid hr
    rw [hr]
    clear hr
    go_enter Tryz.func41, Tryz.ntmps41
    go_wp2_with fail
    go_loopw [13] (fun i wr => ∃ k : Nat, k ≤ n ∧ i = .int .i64 k ∧ Hid (xs.take k = ys.take k) ∧ Hid (Kp All w wr)) (fun i _ => n - (intOf i).toNat)
    case atStart => exact ⟨0, Nat.zero_le _, rfl, rfl, Kp.refl _ _⟩
    case round =>
      obtain ⟨k, hk, rfl, hT, hkp⟩ := hrel
      by_cases hlt : k < n
      · have hb0 : decide ((k : Int) < (n : Int)) = true := decide_eq_true (by omega)
        obtain ⟨x, hx⟩ : ∃ x, xs[k]? = some x := ⟨_, List.getElem?_eq_getElem (by rw [HN.out]; exact hlt)⟩
        obtain ⟨y, hy⟩ : ∃ y, ys[k]? = some y := ⟨_, List.getElem?_eq_getElem (by rw [HN'.out]; exact hlt)⟩
        obtain ⟨b, o, rfl, hc⟩ := sl_u8 (H.out.step hkp.out).now hx
        obtain ⟨b', o', rfl, hc'⟩ := sl_u8 (H'.out.step hkp.out).now hy
        have i0 : (0 : Int) ≤ (k : Int) := by omega
        have i1 : (k : Int) < (n : Int) := by omega
        have HX := hid hx; have HY := hid hy
        clear hx hy
        by_cases hxy : x = y
        · have hne : (!(((x.toNat : Nat) : Int) == ((y.toNat : Nat) : Int))) = false := by rw [hxy]; simp
          have HT2 := hid (show xs.take (k + 1) = ys.take (k + 1) by rw [List.take_add_one, List.take_add_one, hT.out, HX.out, HY.out, hxy])
          go_wp2_with fail
          go_quiet (fail)
          go_wp2_with fail
          exact ⟨⟨k + 1, by omega, by go_num, HT2, hkp.out.drewN _⟩, by simp [intOf]; omega⟩
        · have hne : (!(((x.toNat : Nat) : Int) == ((y.toNat : Nat) : Int))) = true := by
            have : x.toNat ≠ y.toNat := fun e => hxy (UInt8.toNat_inj.1 e)
            simp; omega
          have hne2 : (((x.toNat : Nat) : Int) != ((y.toNat : Nat) : Int)) = true := hne
          have hrf : r = false := by
            rw [← HR.out]
            exact decide_eq_false (fun e => by rw [e, HY.out] at HX; exact hxy (by injection HX.out with h; exact h.symm))
          subst hrf
          go_wp2_with fail
          go_quiet (fail)
          go_wp2_with fail
          go_ret
          exact ⟨rfl, hkp.out.drewN _⟩
      · have hb0 : decide ((k : Int) < (n : Int)) = false := decide_eq_false (by omega)
        obtain rfl : k = n := by omega
        have hrt : r = true := by
          rw [← HR.out]
          have h1 := hT.out
          rw [List.take_of_length_le (by rw [HN.out]; omega), List.take_of_length_le (by rw [HN'.out]; omega)] at h1
          exact decide_eq_true h1
        subst hrt
        go_wp2_with fail
        go_ret
        exact ⟨rfl, hkp.out⟩
  · have bne : (!((n : Int) == (n' : Int))) = true := by simp; omega
    have hrf : decide (xs = ys) = false := decide_eq_false (fun e => he (by rw [← HN.out, ← HN'.out, e]))
    rw [hrf]
    go_enter Tryz.func41, Tryz.ntmps41
    go_wp2_with fail
    go_ret
    exact ⟨rfl, Kp.refl _ _⟩
end Go.Proofs.YtbkhademplgicaaGreatDoor
