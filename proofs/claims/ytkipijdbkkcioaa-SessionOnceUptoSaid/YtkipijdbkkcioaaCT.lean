/- SessionActs: the walk. No condition but that the acts are not great. -/
import Derived.Test.YtkipijdbkkcioaaCS
import Derived.Test.YtkipijdbkkcioaaSE
namespace Go.Proofs.Ytkipijdbkkcioaa
open Go.RowKit
set_option linter.unusedVariables false
set_option linter.unusedSimpArgs false
theorem elI : El Try.prog 39 3 1 8 (.int .i64 0) := ⟨Try.underlying39, by kernel_rfl, rfl, by decide, by decide⟩
theorem sl_new1' {w : World} {m : Nat} (hm : m = w.heap.size) (a : Value) (t : TypeId) : Sl (some ⟨m, 0, none⟩) 1 1 1 [a] (w.alloc (.cells #[a] t)) := by
  subst hm
  exact sl_new1 w a t
theorem or5 {a b c d e P : Prop} (h : a ∨ b ∨ c ∨ d ∨ e) (h1 : a → P) (h2 : b → P) (h3 : c → P) (h4 : d → P) (h5 : e → P) : P := by
  rcases h with h | h | h | h | h
  · exact h1 h
  · exact h2 h
  · exact h3 h
  · exact h4 h
  · exact h5 h
/-- An act that may be written. -/
def AcOk (a : AD) : Prop := Fine a.r ∧ RDok a.r ∧ (encReply a.r).length ≤ 100000000000 ∧ (-9223372036854775808 ≤ a.n ∧ a.n ≤ 9223372036854775807) ∧ (-9223372036854775808 ≤ a.m ∧ a.m ≤ 9223372036854775807)
theorem enOk_z {id : Int} (h1 : -9223372036854775808 ≤ id) (h2 : id ≤ 9223372036854775807) : EnOk (enOf (id, Raw.z)) := by
  have e : encReply Raw.z.r = encReply RD.z := rfl
  have h3 : (encReply RD.z).length ≤ 1000 := by
    have := enc_len_le (zig 0)
    have h4 := enc_len_le 0
    simp only [encReply, encHead, encPairs, RD.z, List.length_append, encZg, encText, encBool, List.flatMap_nil, List.length_nil]
    simp [ByteArray.size, enc_len_le]
    omega
  have a1 : (-9223372036854775808 : Int) ≤ 0 := by decide
  have a2 : (0 : Int) ≤ 9223372036854775807 := by decide
  exact ⟨h1, h2, a1, a2, ⟨a1, a2, a1, a2, by show (encReply RD.z).length ≤ _; omega, by show 0 ≤ _; omega⟩, by show (encReply RD.z).length ≤ _; omega⟩
theorem Oks.open {L : List (Int × Raw)} (h : Oks L) {id : Int} (h1 : -9223372036854775808 ≤ id) (h2 : id ≤ 9223372036854775807) : Oks (ropenL L id) := by
  intro x hx
  rcases mem_ropenL hx with hx | rfl
  · exact h x hx
  · exact enOk_z h1 h2
theorem Oks.done {L : List (Int × Raw)} (h : Oks L) {a : AD} (ha : AcOk a) : Oks (rdoneL L a.n a.m ⟨a.m, a.r, a.A, a.c⟩) := by
  intro x hx
  rcases mem_rdoneL hx with hx | rfl
  · exact h x hx
  · exact ⟨ha.2.2.2.1.1, ha.2.2.2.1.2, ha.2.2.2.2.1, ha.2.2.2.2.2, ha.2.1, ha.2.2.1⟩
theorem Oks.exp {L : List (Int × Raw)} (h : Oks L) {id : Int} : Oks (rexpL L id) := fun x hx => h x (mem_rexpL hx)
set_option maxRecDepth 100000 in
set_option maxHeartbeats 8000000 in
theorem acts_true (O : Option Addr) (c : Nat) (xs : List AD) (w : World) (hn : xs.length ≤ 9223372036854775806) (h : 0 < xs.length → ∃ b o, O = some ⟨b, o, none⟩ ∧ Foot All (Acts b o xs) w) (hf : ∀ k, k < xs.length → AcOk (xs.getD k default)) :
    Calls Try.prog 5 #[.slice O xs.length c] w fun e w' => e = .returned (.bool true) ∧ Kp All w w' := by
  have H := hid h
  have HF := hid hf
  clear h hf
  obtain ⟨n, hl⟩ : ∃ n, xs.length = n := ⟨_, rfl⟩
  have HL := hid hl
  rw [hl] at hn ⊢
  clear hl
  go_enter Try.func5, Try.ntmps5
  go_wp2_with fail
  go_loopw [3, 20] (fun x2 i wr => ∃ (k : Nat) (y : Int), k ≤ n ∧ i = .int .i64 k ∧ x2 = .int .i64 y ∧ Hid (Kp All w wr)) (fun _ i _ => n - (intOf i).toNat)
  case atStart => exact ⟨0, _, Nat.zero_le _, rfl, rfl, Kp.refl _ _⟩
  case round =>
    obtain ⟨k, y, hk, rfl, rfl, hkp⟩ := hrel
    by_cases hlt : k < n
    · have hb0 : decide ((k : Int) < (n : Int)) = true := decide_eq_true (by omega)
      have hltx : k < xs.length := by rw [HL.out]; exact hlt
      obtain ⟨b, o, eO, hacts⟩ := H.out (by rw [HL.out]; omega)
      subst eO
      obtain ⟨a, ha⟩ : ∃ a, xs.getD k default = a := ⟨_, rfl⟩
      have hc := (hacts.step hkp.out).now.cell k
      have hp : Foot All (Ps a.A a.c a.r.pairs) wr := (hacts.step hkp.out).imp fun u hu => ha ▸ hu.pairs k hltx
      have hfa : Fine a.r := ha ▸ (HF.out k hltx).1
      rw [ha] at hc
      have p0 := hc 0 _ hltx rfl
      have p1 := hc 1 _ hltx rfl
      have p2 := hc 2 _ hltx rfl
      have p3 := hc 3 _ hltx rfl
      have p4 := hc 4 _ hltx rfl
      have p5 := hc 5 _ hltx rfl
      have p6 := hc 6 _ hltx rfl
      have p7 := hc 7 _ hltx rfl
      rw [Nat.add_zero] at p0
      have i0 : (0 : Int) ≤ (k : Int) := by omega
      have i1 : (k : Int) < (n : Int) := by omega
      have HA := hid hacts
      have HP := hid hp
      have HFA := hid hfa
      clear hacts hp hfa hc ha hltx
      go_wp2_with fail
      refine (weight_any a.r a.A a.c _ (HP.out.step (Kp.al _ _)) HFA.out.small HFA.out.val).mono ?_
      rintro e w1 ⟨n1, rfl, hk1⟩
      have HK1 := hid ((hkp.out.alloc _).trans hk1)
      clear hk1 p0 p1 p2 p3 p4 p5 p6 p7
      by_cases h3 : 400 < wrap64 (y + n1)
      · have hd3 : decide (400 < wrap64 (y + n1)) = true := decide_eq_true h3
        clear h3
        go_wp2_with fail
        refine (lives_any _).mono ?_
        rintro e w2 ⟨rfl, hk2⟩
        have HK2 := hid hk2
        clear hk2
        go_wp2_with fail
        go_ret
        exact ⟨rfl, HK1.out.trans HK2.out⟩
      · have hd3 : decide (400 < wrap64 (y + n1)) = false := decide_eq_false h3
        clear h3
        go_wp2_with fail
        exact ⟨⟨k + 1, _, by omega, by go_num, rfl, HK1.out⟩, by simp [intOf]; omega⟩
    · have hb0 : decide ((k : Int) < (n : Int)) = false := decide_eq_false (by omega)
      go_wp2_with fail
      refine (new_any wr).mono ?_
      rintro e w1 ⟨⟨p, m, rfl, ht, hp, hm⟩, hk1⟩
      have T1 := hid ht
      have K1 := hid (hkp.out.trans hk1)
      have Hp := hid hp; have Hm := hid hm
      clear ht hk1 hp hm
      go_wp2_with fail
      obtain ⟨q2, hp2⟩ : ∃ q2, w1.heap.size = q2 := ⟨_, rfl⟩
      have hLM0 : LM w.heap.size p m q2 [] [] (.slice none 0 0) (w1.alloc (Obj.cells #[.slice none 0 0] 45)) := by
        have hs := K1.out.size
        have h1 := hkp.out.size
        have hpl := blk_lt T1.out.cell
        have hml := T1.out.map_lt
        have := Hp.out; have := Hm.out
        exact ⟨(T1.out.all (Kp.al _ _)).mono (fun _ _ h => h.elim), ⟨by rw [← hp2]; exact blk_new w1 _, World.ownsRow_nil _ _ _ _⟩, by simp, by omega, by omega, by omega, by omega, by omega, (fun e => by cases e), (fun e => by cases e)⟩
      have LM0 := hid hLM0
      have K2 := hid (K1.out.alloc (Obj.cells #[.slice none 0 0] 45))
      rw [hp2]
      clear hLM0 hp2 T1 K1 Hp Hm hkp
      go_wp2_with fail
      go_loopw [40] (fun i wr => ∃ (k : Nat) , k ≤ n ∧ i = .int .i64 k ∧ Hid (St w p m q2 wr)) (fun i _ => n - (intOf i).toNat)
      case atStart => exact ⟨0, Nat.zero_le _, rfl, [], [], .slice none 0 0, LM0.out, Al.nil, Nat.zero_le _, fun x hx => absurd hx (by simp), K2.out⟩
      case round =>
        clear LM0 K2 hb0 hlt
        obtain ⟨k, hk, rfl, HST0⟩ := hrel
        obtain ⟨T, L, v, hM, hAL, h16, hOK, hkp⟩ := HST0.out
        have HM := hid hM; have HAL := hid hAL; have HL16 := hid h16; have HOK := hid hOK; have HKP := hid hkp
        clear hM hAL h16 hOK HST0
        by_cases hlt : k < n
        · have hb0 : decide ((k : Int) < (n : Int)) = true := decide_eq_true (by omega)
          have hltx : k < xs.length := by rw [HL.out]; exact hlt
          obtain ⟨b, o, eO, hacts⟩ := H.out (by rw [HL.out]; omega)
          subst eO
          obtain ⟨a, ha⟩ : ∃ a, xs.getD k default = a := ⟨_, rfl⟩
          have hc := (hacts.step hkp).now.cell k
          have hp : Foot All (Ps a.A a.c a.r.pairs) w := hacts.imp fun u hu => ha ▸ hu.pairs k hltx
          have hfa : AcOk a := ha ▸ HF.out k hltx
          rw [ha] at hc
          have p0 := hc 0 _ hltx rfl
          have p1 := hc 1 _ hltx rfl
          have p2 := hc 2 _ hltx rfl
          have p3 := hc 3 _ hltx rfl
          have p4 := hc 4 _ hltx rfl
          have p5 := hc 5 _ hltx rfl
          have p6 := hc 6 _ hltx rfl
          have p7 := hc 7 _ hltx rfl
          rw [Nat.add_zero] at p0
          have i0 : (0 : Int) ≤ (k : Int) := by omega
          have i1 : (k : Int) < (n : Int) := by omega
          have HP := hid hp
          have HFA := hid hfa
          clear hacts hp hfa hc ha hltx
          have hkind : a.kind = 0 ∨ a.kind = 1 ∨ a.kind = 2 ∨ a.kind = 3 ∨ (a.kind ≠ 0 ∧ a.kind ≠ 1 ∧ a.kind ≠ 2 ∧ a.kind ≠ 3) := by omega
          refine or5 hkind ?kA ?kB ?kC ?kD ?kE
          case' kB =>
            intro k0
            have d0 : ((a.kind : Int) == 0) = false := by simp [k0]
            have d1 : ((a.kind : Int) == 1) = true := beq_iff_eq.2 k0
            clear k0
            obtain ⟨SA, sc, rfl, hF0⟩ := HM.out.doc.foot
            have HF0 := hid hF0
            obtain ⟨⟨x, er⟩, hq⟩ : ∃ q, askOf L a.n a.m = q := ⟨_, rfl⟩
            have hA := HAL.out.ask a.n a.m
            rw [hq] at hA
            have HA1 := hid hA.1; have HA2 := hid hA.2; have HQ := hid hq
            clear hF0 hq hA
            go_wp2_with fail
            refine (ask_any _ p m T a.n a.m _ (HM.out.all (Kp.al _ _)).tab).mono ?_
            rintro e w2 ⟨A1, c1, rfl, hf1, hk1⟩
            rw [HA1.out, HA2.out]
            rw [HA2.out] at hf1
            dsimp only at hf1 ⊢
            have cb2 := blk_cell (hk1.heap (blk_new wr _) trivial)
            have hb2 : wr.heap.size < w2.heap.size := blk_lt (hk1.heap (blk_new wr _) trivial)
            have HF1 := hid (hf1.mono (T := All) (fun _ _ _ => trivial))
            have HK1 := hid ((Kp.al wr (Obj.cells #[.int .i64 a.kind, .int .i64 a.n, .int .i64 a.m, .int .i64 a.r.err, .bool a.r.found, .string a.r.val, .int .i64 a.r.sess, .slice a.A a.r.pairs.length a.c] 28)).trans hk1)
            clear hf1 hk1 p0 p1 p2 p3 p4 p5 p6 p7
            go_wp2_with fail
            have HK2 := hid (HK1.out.alloc (.cells #[.int .i64 x.r.err, .bool x.r.found, .string x.r.val, .int .i64 x.r.sess, .slice A1 x.r.pairs.length c1] 26))
            refine (rask_any q2 L SA sc a.n a.m _ (HK2.out.heap HM.out.doc.cell trivial) (HF0.out.step HK2.out) (by have := HL16.out; omega)).mono ?_
            rw [HQ.out]
            dsimp only
            rintro e w3 ⟨rfl, hk3⟩
            have cb3 := blk_cell (hk3.heap (blk_new w2 _) trivial)
            have hb3 : w2.heap.size < w3.heap.size := blk_lt (hk3.heap (blk_new w2 _) trivial)
            have HK3 := hid (HK2.out.trans hk3)
            have HK23 := hid ((Kp.al w2 _).trans hk3)
            clear hk3 cb2
            go_wp2_with fail
            have hps := HM.out.askPs HOK.out HQ.out
            have HPS := hid hps
            clear hps
            refine (same09_eq x.r A1 x.A c1 x.c _ (HF1.out.step (HK23.out.alloc _)) (HPS.out.1.step (HK3.out.alloc _)) HPS.out.2).mono ?_
            rintro e w9 ⟨rfl, hk9⟩
            have HST := hid (show St w p m q2 w9 from ⟨_, _, _, HM.out.all ((HK3.out.alloc _).trans hk9), HAL.out, HL16.out, HOK.out, HKP.out.trans ((HK3.out.alloc _).trans hk9)⟩)
            clear hk9
            obtain ⟨T, L, v2, hM', hAL', h16', hOK', hK'⟩ := HST.out; obtain ⟨SA, sc, rfl, hF'⟩ := hM'.doc.foot; have HM' := hid hM'; have HAL' := hid hAL'; have H16' := hid h16'; have HOK' := hid hOK'; have HK' := hid hK'; have HF' := hid hF'; have cq := blk_cell hM'.doc.cell; clear hM' hAL' h16' hOK' hK' hF' HST; go_wp2_with fail
          case' kA =>
            intro k0
            have d0 : ((a.kind : Int) == 0) = true := beq_iff_eq.2 k0
            clear k0
            go_wp2_with fail
            have b7 := blk_new wr (Obj.cells #[.int .i64 a.kind, .int .i64 a.n, .int .i64 a.m, .int .i64 a.r.err, .bool a.r.found, .string a.r.val, .int .i64 a.r.sess, .slice a.A a.r.pairs.length a.c] 28); have k7 : Kp All wr (wr.alloc (Obj.cells #[.int .i64 a.kind, .int .i64 a.n, .int .i64 a.m, .int .i64 a.r.err, .bool a.r.found, .string a.r.val, .int .i64 a.r.sess, .slice a.A a.r.pairs.length a.c] 28)) := Kp.al _ _; obtain ⟨W7, hW7⟩ : ∃ W7, W7 = wr.alloc (Obj.cells #[.int .i64 a.kind, .int .i64 a.n, .int .i64 a.m, .int .i64 a.r.err, .bool a.r.found, .string a.r.val, .int .i64 a.r.sess, .slice a.A a.r.pairs.length a.c] 28) := ⟨_, rfl⟩; rw [← hW7] at b7 k7 ⊢; have c7 := blk_cell b7; have B7 := hid b7; have HM7 := hid (HM.out.all k7.drew); have HK7 := hid (HKP.out.trans k7.drew); have Hml := hid HM.out.lt.2.1; have Hql := hid HM.out.lt.2.2; have Hrw := hid (fun b hb => (HM.out.row (b := b) hb).2); clear b7 hW7 k7 hkp p0 p1 p2 p3 p4 p5 p6 p7
            go_region_held3 (fun w' => ∀ i, w'.cell? ⟨wr.heap.size, i, none⟩ = (#[.int .i64 a.kind, .int .i64 a.n, .int .i64 a.m, .int .i64 a.r.err, .bool a.r.found, .string a.r.val, .int .i64 a.r.sess, .slice a.A a.r.pairs.length a.c] : Array Value)[i]?) (first | exact blk_cell HB9.out | exact blk_cell HB8.out | assumption) (first | (go_at_call 17; have h8' := H8.out; clear h8'; refine (ropen_any w.heap.size q2 L v a.n _ H8.out.doc (HK8.out.size) (by have := HL16.out; omega)).mono ?_; rw [← HAL.out.openErr]; rintro e w9 ⟨rfl, v', hd9, hk9, hv9⟩; have HK9 := hid (HK8.out.then hk9 (fun b hb _ => ⟨by have := H8.out.b2; omega, fun e => by have := (H8.out.row e.symm).1; omega⟩)); have HB9 := hid (hk9.heap HB8.out ⟨by have := Hql.out; omega, fun e => by have := Hrw.out _ e.symm; omega⟩); have HST := hid (show St w p m q2 w9 from ⟨_, _, v', H8.out.turn hd9 hk9 hv9 (fun x hx => by rcases mem_ropenL hx with h | h; (exact .inl h); (exact .inr (by rw [h]; exact ps_z _ _))), HAL.out.open a.n, ropenL_len HL16.out, HOK.out.open HFA.out.2.2.2.1.1 HFA.out.2.2.2.1.2, HK9.out⟩); clear hd9 hk9 hv9) | (go_at_call 11; refine (open_any _ p m T a.n _ HM7.out.tab LM.hS).mono ?_; rintro e w8 ⟨rfl, ht8, hk8⟩; have H8 := hid (HM7.out.prog ht8 hk8); have HK8 := hid (HK7.out.then hk8 (fun b hb _ (e : b = m) => by have := HM7.out.bm; omega)); have HB8 := hid (hk8.heap B7.out (show wr.heap.size ≠ m by have := Hml.out; omega)); clear ht8 hk8))
            obtain ⟨T, L, v2, hM', hAL', h16', hOK', hK'⟩ := HST.out; obtain ⟨SA, sc, rfl, hF'⟩ := hM'.doc.foot; have HM' := hid hM'; have HAL' := hid hAL'; have H16' := hid h16'; have HOK' := hid hOK'; have HK' := hid hK'; have HF' := hid hF'; have cq := blk_cell hM'.doc.cell; clear hM' hAL' h16' hOK' hK' hF' HST; go_wp2_with fail
          case' kC =>
            intro k0
            have d0 : ((a.kind : Int) == 0) = false := by simp [k0]
            have d1 : ((a.kind : Int) == 1) = false := by simp [k0]
            have d2 : ((a.kind : Int) == 2) = true := beq_iff_eq.2 k0
            clear k0
            go_wp2_with fail
            have b7 := blk_new wr (Obj.cells #[.int .i64 a.kind, .int .i64 a.n, .int .i64 a.m, .int .i64 a.r.err, .bool a.r.found, .string a.r.val, .int .i64 a.r.sess, .slice a.A a.r.pairs.length a.c] 28); have k7 : Kp All wr (wr.alloc (Obj.cells #[.int .i64 a.kind, .int .i64 a.n, .int .i64 a.m, .int .i64 a.r.err, .bool a.r.found, .string a.r.val, .int .i64 a.r.sess, .slice a.A a.r.pairs.length a.c] 28)) := Kp.al _ _; obtain ⟨W7, hW7⟩ : ∃ W7, W7 = wr.alloc (Obj.cells #[.int .i64 a.kind, .int .i64 a.n, .int .i64 a.m, .int .i64 a.r.err, .bool a.r.found, .string a.r.val, .int .i64 a.r.sess, .slice a.A a.r.pairs.length a.c] 28) := ⟨_, rfl⟩; rw [← hW7] at b7 k7 ⊢; have c7 := blk_cell b7; have B7 := hid b7; have HM7 := hid (HM.out.all k7.drew); have HK7 := hid (HKP.out.trans k7.drew); have Hml := hid HM.out.lt.2.1; have Hql := hid HM.out.lt.2.2; have Hrw := hid (fun b hb => (HM.out.row (b := b) hb).2); clear b7 hW7 k7 hkp p0 p1 p2 p3 p4 p5 p6 p7
            go_region_held3 (fun w' => ∀ i, w'.cell? ⟨wr.heap.size, i, none⟩ = (#[.int .i64 a.kind, .int .i64 a.n, .int .i64 a.m, .int .i64 a.r.err, .bool a.r.found, .string a.r.val, .int .i64 a.r.sess, .slice a.A a.r.pairs.length a.c] : Array Value)[i]?) (first | exact blk_cell HB9.out | exact blk_cell HB8.out | assumption) (first | (go_at_call 19; have h8' := H8.out; clear h8'; refine (rdone_any w.heap.size q2 L v a.n a.m a.r a.A a.c _ H8.out.doc (by have := HL16.out; omega)).mono ?_; rw [← HAL.out.doneErr]; rintro e w9 ⟨rfl, v', hd9, hk9, hv9⟩; have HK9 := hid (HK8.out.then hk9 (fun b hb _ => ⟨by have := H8.out.b2; omega, fun e => by have := (H8.out.row e.symm).1; omega⟩)); have HB9 := hid (hk9.heap HB8.out ⟨by have := Hql.out; omega, fun e => by have := Hrw.out _ e.symm; omega⟩); have HST := hid (show St w p m q2 w9 from ⟨_, _, v', H8.out.turn hd9 hk9 hv9 (fun x hx => by rcases mem_rdoneL hx with h | h; (exact .inl h); (exact .inr (by rw [h]; exact (HP.out.mono (fun _ h _ => h)).step HK9.out.all))), HAL.out.done a.n a.m a.r a.A a.c, (by rw [rdoneL_len]; exact HL16.out), HOK.out.done HFA.out, HK9.out⟩); clear hd9 hk9 hv9) | (go_at_call 12; refine (done_any _ p m T a.n a.m a.r a.A a.c _ HM7.out.tab LM.hS HM7.out.new (HP.out.step HK7.out) HFA.out.1.small).mono ?_; rintro e w8 ⟨rfl, ht8, hk8⟩; have H8 := hid (HM7.out.prog ht8 hk8); have HK8 := hid (HK7.out.then hk8 (fun b hb _ (e : b = m) => by have := HM7.out.bm; omega)); have HB8 := hid (hk8.heap B7.out (show wr.heap.size ≠ m by have := Hml.out; omega)); clear ht8 hk8))
            obtain ⟨T, L, v2, hM', hAL', h16', hOK', hK'⟩ := HST.out; obtain ⟨SA, sc, rfl, hF'⟩ := hM'.doc.foot; have HM' := hid hM'; have HAL' := hid hAL'; have H16' := hid h16'; have HOK' := hid hOK'; have HK' := hid hK'; have HF' := hid hF'; have cq := blk_cell hM'.doc.cell; clear hM' hAL' h16' hOK' hK' hF' HST; go_wp2_with fail
          case' kD =>
            intro k0
            have d0 : ((a.kind : Int) == 0) = false := by simp [k0]
            have d1 : ((a.kind : Int) == 1) = false := by simp [k0]
            have d2 : ((a.kind : Int) == 2) = false := by simp [k0]
            have d3 : ((a.kind : Int) == 3) = true := beq_iff_eq.2 k0
            clear k0
            go_wp2_with fail
            have b7 := blk_new wr (Obj.cells #[.int .i64 a.kind, .int .i64 a.n, .int .i64 a.m, .int .i64 a.r.err, .bool a.r.found, .string a.r.val, .int .i64 a.r.sess, .slice a.A a.r.pairs.length a.c] 28); have k7 : Kp All wr (wr.alloc (Obj.cells #[.int .i64 a.kind, .int .i64 a.n, .int .i64 a.m, .int .i64 a.r.err, .bool a.r.found, .string a.r.val, .int .i64 a.r.sess, .slice a.A a.r.pairs.length a.c] 28)) := Kp.al _ _; obtain ⟨W7, hW7⟩ : ∃ W7, W7 = wr.alloc (Obj.cells #[.int .i64 a.kind, .int .i64 a.n, .int .i64 a.m, .int .i64 a.r.err, .bool a.r.found, .string a.r.val, .int .i64 a.r.sess, .slice a.A a.r.pairs.length a.c] 28) := ⟨_, rfl⟩; rw [← hW7] at b7 k7 ⊢; have c7 := blk_cell b7; have B7 := hid b7; have HM7 := hid (HM.out.all k7.drew); have HK7 := hid (HKP.out.trans k7.drew); have Hml := hid HM.out.lt.2.1; have Hql := hid HM.out.lt.2.2; have Hrw := hid (fun b hb => (HM.out.row (b := b) hb).2); clear b7 hW7 k7 hkp p0 p1 p2 p3 p4 p5 p6 p7
            go_region_held3 (fun w' => ∀ i, w'.cell? ⟨wr.heap.size, i, none⟩ = (#[.int .i64 a.kind, .int .i64 a.n, .int .i64 a.m, .int .i64 a.r.err, .bool a.r.found, .string a.r.val, .int .i64 a.r.sess, .slice a.A a.r.pairs.length a.c] : Array Value)[i]?) (first | exact blk_cell HB9.out | exact blk_cell HB8.out | assumption) (first | (go_at_call 20; have h8' := H8.out; clear h8'; refine (rexp_any w.heap.size q2 L v a.n _ H8.out.doc (HK8.out.size) (by have := HL16.out; omega)).mono ?_; rw [← HAL.out.expErr]; rintro e w9 ⟨rfl, v', hd9, hk9, hv9⟩; have HK9 := hid (HK8.out.then hk9 (fun b hb _ => ⟨by have := H8.out.b2; omega, fun e => by have := (H8.out.row e.symm).1; omega⟩)); have HB9 := hid (hk9.heap HB8.out ⟨by have := Hql.out; omega, fun e => by have := Hrw.out _ e.symm; omega⟩); have HST := hid (show St w p m q2 w9 from ⟨_, _, v', H8.out.turn hd9 hk9 hv9 (fun x hx => .inl (mem_rexpL hx)), HAL.out.exp a.n, Nat.le_trans rexpL_len HL16.out, HOK.out.exp, HK9.out⟩); clear hd9 hk9 hv9) | (go_at_call 13; refine (expire_any _ p m T a.n _ HM7.out.tab LM.hS).mono ?_; rintro e w8 ⟨rfl, ht8, hk8⟩; have H8 := hid (HM7.out.prog ht8 hk8); have HK8 := hid (HK7.out.then hk8 (fun b hb _ (e : b = m) => by have := HM7.out.bm; omega)); have HB8 := hid (hk8.heap B7.out (show wr.heap.size ≠ m by have := Hml.out; omega)); clear ht8 hk8))
            obtain ⟨T, L, v2, hM', hAL', h16', hOK', hK'⟩ := HST.out; obtain ⟨SA, sc, rfl, hF'⟩ := hM'.doc.foot; have HM' := hid hM'; have HAL' := hid hAL'; have H16' := hid h16'; have HOK' := hid hOK'; have HK' := hid hK'; have HF' := hid hF'; have cq := blk_cell hM'.doc.cell; clear hM' hAL' h16' hOK' hK' hF' HST; go_wp2_with fail
          case' kE =>
            intro k0
            have d0 : ((a.kind : Int) == 0) = false := by simp [k0]
            have d1 : ((a.kind : Int) == 1) = false := by simp [k0]
            have d2 : ((a.kind : Int) == 2) = false := by simp [k0]
            have d3 : ((a.kind : Int) == 3) = false := by simp [k0]
            clear k0
            obtain ⟨SA, sc, rfl, hF0⟩ := HM.out.doc.foot
            have HM' := hid (HM.out.all (Kp.al wr (Obj.cells #[.int .i64 a.kind, .int .i64 a.n, .int .i64 a.m, .int .i64 a.r.err, .bool a.r.found, .string a.r.val, .int .i64 a.r.sess, .slice a.A a.r.pairs.length a.c] 28))); have HAL' := HAL; have H16' := HL16; have HOK' := HOK; have HK' := hid (HKP.out.alloc (Obj.cells #[.int .i64 a.kind, .int .i64 a.n, .int .i64 a.m, .int .i64 a.r.err, .bool a.r.found, .string a.r.val, .int .i64 a.r.sess, .slice a.A a.r.pairs.length a.c] 28)); have HF' := hid (hF0.step (Kp.al wr (Obj.cells #[.int .i64 a.kind, .int .i64 a.n, .int .i64 a.m, .int .i64 a.r.err, .bool a.r.found, .string a.r.val, .int .i64 a.r.sess, .slice a.A a.r.pairs.length a.c] 28)))
            have cq := blk_cell HM.out.doc.cell
            have hqs : q2 < wr.heap.size := HM.out.lt.2.2
            clear hF0
            go_wp2_with fail
            obtain ⟨w9, hw9⟩ : ∃ w9, w9 = wr.alloc (Obj.cells #[.int .i64 a.kind, .int .i64 a.n, .int .i64 a.m, .int .i64 a.r.err, .bool a.r.found, .string a.r.val, .int .i64 a.r.sess, .slice a.A a.r.pairs.length a.c] 28) := ⟨_, rfl⟩
            rw [← hw9] at HM' HK' HF' ⊢
            clear cq hw9
            have cq := blk_cell HM'.out.doc.cell
          all_goals (
            clear HM HAL HL16 HOK HKP
            go_loopw [15, 120] (fun x i wq => ∃ j : Nat, j ≤ L.length ∧ i = .int .i64 j ∧ Hid (wq.ownsRow w9.heap.size 3 1 x j (((keysL L).take j).map (Value.int .i64))) ∧ Hid (Kp All w9 wq)) (fun _ i _ => L.length - (intOf i).toNat)
            case atStart => exact ⟨0, Nat.zero_le _, rfl, hid (World.ownsRow_nil _ _ _ _), Kp.refl _ _⟩
            case round =>
              obtain ⟨j, hj, rfl, hown, hkq⟩ := hrel
              by_cases hlj : j < L.length
              · have hb1 : decide ((j : Int) < (L.length : Int)) = true := decide_eq_true (by omega)
                obtain ⟨y, hy⟩ : ∃ y, L[j]? = some y := ⟨_, List.getElem?_eq_getElem hlj⟩
                obtain ⟨_, _, h3⟩ := (HF'.out.step hkq.out).now
                obtain ⟨sb, so, eA, hr⟩ := h3 (by omega)
                have cc := fun i (hi : i < 7) z (hz : (sc7 y)[i]? = some z) => hr (j * 7 + i) z ((ssc_at hy i hi).trans hz)
                have p0 := cc 0 (by omega) _ rfl
                have p1 := cc 1 (by omega) _ rfl
                have p2 := cc 2 (by omega) _ rfl
                have p3 := cc 3 (by omega) _ rfl
                have p4 := cc 4 (by omega) _ rfl
                have p5 := cc 5 (by omega) _ rfl
                have p6 := cc 6 (by omega) _ rfl
                simp only [← Nat.add_assoc, Nat.add_zero] at p0 p1 p2 p3 p4 p5 p6
                subst eA
                have hb2 := World.block_lt_of_cell? _ _ p0
                obtain ⟨z, x⟩ := y
                dsimp only at p0 p1 p2 p3 p4 p5 p6
                have i0 : (0 : Int) ≤ (j : Int) := by omega
                have i1 : (j : Int) < (L.length : Int) := by omega
                have HTK := hid (show ((keysL L).take (j + 1)).map (Value.int .i64) = ((keysL L).take j).map (Value.int .i64) ++ [.int .i64 z] by rw [List.take_add_one, keysL, List.getElem?_map, hy]; simp)
                obtain ⟨RA, rc, rfl⟩ := own_shape hown.out
                have hjl := H16'.out
                clear hr cc h3 hy cq
                go_wp2_with (at_builtin; go_loud (refine wpList_app elI ((hown.out.alloc _).alloc _) (sl_new1' (m := wr.heap.size + 1) (by simp) (.int .i64 z) _) (fun u hu => by rw [List.mem_singleton.1 hu]; rfl) ?_ (Nat.le_trans hkq.out.size (by simp; omega)) rfl _ _ rfl rfl rfl ?_); omega; intro v' w4 hown4 hg4 hob4 hnil4; obtain ⟨A4, c4', rfl⟩ := own_shape hown4; have HOW4 := hid hown4; have HG4 := hid hg4; clear hown4 hg4 hob4 hnil4)
                go_wp2_with fail
                refine ⟨⟨j + 1, by omega, by go_num, ?_, ?_⟩, by simp [intOf]; omega⟩
                · rw [HTK.out]
                  exact hid HOW4.out
                · exact hid (((hkq.out.alloc _).alloc _).then (Kp.grown HG4.out) (fun i hi _ e => by have := (hown.out.lt i e.symm).1; omega))
              · have hb1 : decide ((j : Int) < (L.length : Int)) = false := decide_eq_false (by omega)
                obtain rfl : j = L.length := by omega
                have hkl : (keysL L).length = L.length := by simp [keysL]
                rw [List.take_of_length_le (by rw [hkl]; exact Nat.le_refl _)] at hown
                obtain ⟨RA, rc, rfl⟩ := own_shape hown.out
                have HMq := hid (HM'.out.all hkq.out)
                have cr := blk_cell HMq.out.doc.cell
                have HKL := hid hkl
                have HTW := hid (HAL'.out.okT HOK'.out HAL'.out.nd)
                clear cq hkl
                go_wp2_with fail
                have hl16 := H16'.out
                have hTl : T.length ≤ 16 := by rw [HAL'.out.len]; exact hl16
                have HTL := hid hTl
                clear hTl
                go_region_held3 (fun w' => ∀ i, w'.cell? ⟨q2, i, none⟩ = (#[.slice SA L.length sc] : Array Value)[i]?) (first | exact blk_cell HC13.out | exact blk_cell HC12.out | exact blk_cell HC11.out | exact blk_cell HC10.out | assumption) (first | (go_at_call 22; have := HC13.out; clear this; refine (same01_eq _ _ (enc L.length ++ encEns L) _ (own_rb H12.out) (own_rb H13.out)).mono ?_; rintro e w14 ⟨rfl, rfl⟩) | (go_at_call 24; have := HC12.out; clear this; refine (rtbytes_any L SA sc _ (HF'.out.step (hkq.out.trans HK12.out)) (fun x hx => ((HM'.out.reps x hx).mono fun _ _ _ => trivial).step (hkq.out.trans HK12.out)) HOK'.out (by omega)).mono ?_; rintro e w13 ⟨⟨v13, rfl, h13⟩, hk13⟩; have H13 := hid h13; have HK13 := hid (HK12.out.trans hk13); have HC13 := hid (HK13.out.heap HMq.out.doc.cell trivial); have h12 := own_kept H12.out hk13 (fun _ _ => trivial); clear H12; have H12 := hid h12; clear h12 h13 hk13) | (go_at_call 23; have := HC11.out; clear this; refine (bytes_any _ p m T HTW.out (by have := HTL.out; omega) _ (HMq.out.all HK11.out).tab).mono ?_; rintro e w12 ⟨ks2, hp2, hs2, ⟨v12, rfl, h12⟩, hk12⟩; rw [HAL'.out.ids hp2 hs2, HAL'.out.bytes] at h12; have H12 := hid h12; have HK12 := hid (HK11.out.trans hk12); have HC12 := hid (HK12.out.heap HMq.out.doc.cell trivial); clear hp2 hs2 h12 hk12) | (go_at_call 21; refine (ints_eqn A1 RA c1 rc L.length (keysL L) HKL.out _ (own_foot H10.out) ((own_foot hown.out).step HK10.out) (by omega)).mono ?_; rintro e w11 ⟨rfl, hk11⟩; have HK11 := hid (HK10.out.trans hk11); have HC11 := hid (HK11.out.heap HMq.out.doc.cell trivial); clear hk11) | (go_at_call 16; refine (ids_any _ p m T (fun x hx => wf64 (HTW.out x hx).1 (HTW.out x hx).2.1) (by have := HTL.out; omega) _ (HMq.out.all (Kp.refl All _).drew).tab).mono ?_; rintro e w10 ⟨v1, ks, rfl, hp1, hs1, h10, hk10⟩; obtain rfl := HAL'.out.ids hp1 hs1; rw [HKL.out] at h10; obtain ⟨A1, c1, rfl⟩ := own_shape h10; have H10 := hid h10; have HK10 := hid ((Kp.refl All wr).drew.trans hk10); have HC10 := hid (HK10.out.heap HMq.out.doc.cell trivial); clear hp1 hs1 h10 hk10))
                have HSTf := hid (show St w p m q2 w13 from ⟨_, _, _, HMq.out.all HK13.out, HAL'.out, H16'.out, HOK'.out, HK'.out.trans (hkq.out.trans HK13.out)⟩)
                clear cr hl16
                go_wp2_with fail
                exact ⟨⟨k + 1, by omega, by go_num, HSTf⟩, by simp [intOf]; omega⟩)
        · have hb0 : decide ((k : Int) < (n : Int)) = false := decide_eq_false (by omega)
          have HKP' := HKP
          go_wp2_with fail
          refine (lives_any _).mono ?_
          rintro e w2 ⟨rfl, hk2⟩
          have HK2 := hid hk2
          clear hk2
          go_wp2_with fail
          go_ret
          exact ⟨rfl, HKP.out.trans HK2.out⟩
end Go.Proofs.Ytkipijdbkkcioaa
