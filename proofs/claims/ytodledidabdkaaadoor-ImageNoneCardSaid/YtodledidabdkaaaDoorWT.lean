/- The law's lives walked: the document's examples are as it says. No condition but where the library's variable lies. -/
import Derived.Test.YtodledidabdkaaaDoorWQ
import Derived.Test.YtodledidabdkaaaDoorWR
import Derived.Test.YtodledidabdkaaaDoorWS
namespace Go.Proofs.YtodledidabdkaaaDoor
open Go.RowKit Go.Shelf V
set_option linter.unusedVariables false
set_option linter.unusedSimpArgs false
/-- a map made since w lies -/
def Nm (k0 k1 : Nat) (w : World) (bm : Nat) (M : Mp) (W : World) : Prop := ∃ O, Lm k0 k1 bm M O W ∧ (∀ b, O b → w.heap.size ≤ b) ∧ Kp All w W
theorem Nm.kept {k0 k1 bm : Nat} {M : Mp} {w W W' : World} (h : Nm k0 k1 w bm M W) (k : Kp All W W') : Nm k0 k1 w bm M W' := by
  obtain ⟨O, h1, h2, h3⟩ := h
  exact ⟨O, h1.kept k (fun _ _ => trivial), h2, h3.trans k⟩
theorem nm_new (k0 k1 n : Nat) (h0 : k0 < 18446744073709551616) (h1 : k1 < 18446744073709551616) (hn : n ≤ 7) (w W : World) (hk : Kp All w W) (hgs : Gs w) : Calls Tryd.prog 7 #[.agg #[.int .u64 k0, .int .u64 k1], .int .i64 n] W fun e w' => ∃ bm, e = .returned (.pointer (some ⟨bm, 0, none⟩)) ∧ Nm k0 k1 w bm (madeP 1) w' ∧ Kp All W w' := by
  refine (mnew_any k0 k1 n (by omega) W (hgs.kept hk trivial)).mono ?_
  rintro e w' ⟨g, _, _, hg, bm, bw, cw, bs, cs, rfl, b1, b2, b3, hm, hk2⟩
  obtain rfl : g = 1 := hg hn
  obtain ⟨i0, _, _, _, n0⟩ := made_inv (sipP k0 k1) (k := 0) (by omega)
  refine ⟨bm, rfl, ⟨fun b => b = bm ∨ b = bw ∨ b = bs, ⟨⟨bw, cw, bs, cs, hm, fun b => Iff.rfl⟩, i0, h0, h1, fun k v h => absurd h (n0 k v)⟩, ?_, hk.trans hk2⟩, hk2⟩
  have := hk.size
  rintro b (rfl | rfl | rfl) <;> omega
theorem nm_put {k0 k1 bm : Nat} {M : Mp} {w W : World} (key v : Tx) (hkey : key.size ≤ 9000000000000000000) (hgs : Gs w) (h : Nm k0 k1 w bm M W) : Calls Tryd.prog 15 #[.pointer (some ⟨bm, 0, none⟩), .string key, .string v] W fun e w' => e = .returned (.tuple #[.bool (putP (sipP k0 k1) M key v).2.1, .int .i64 ((putP (sipP k0 k1) M key v).2.2 : Nat)]) ∧ Nm k0 k1 w bm (putP (sipP k0 k1) M key v).1 w' := by
  obtain ⟨O, h1, h2, h3⟩ := h
  refine (mput_any k0 k1 bm M O key v hkey W (hgs.kept h3 trivial) h1).mono ?_
  rintro e w' ⟨rfl, O', h4, h5, h6⟩
  have := h3.size
  refine ⟨rfl, O', h4, fun b hb => ?_, h3.then h6 fun b hb _ e => absurd (h2 b e) (by omega)⟩
  rcases Nat.lt_or_ge b W.heap.size with hl | hl
  · exact h2 b (h5 b hl hb)
  · omega
theorem imgL : encImg [(txA, tx1), (txB, tx2)] = [2, 1, 97, 1, 49, 1, 98, 1, 50] := by decide +kernel
set_option maxRecDepth 100000 in
set_option maxHeartbeats 1000000 in
theorem lives07_any (w : World) (hgs : Gs w) : Calls Tryd.prog 13 #[] w fun e w' => e = .returned (.bool true) ∧ Kp All w w' := by
  have HG := hid hgs
  clear hgs
  go_enter Tryd.func13, Tryd.ntmps13
  go_wp2_with fail
  refine (nm_new 0 0 0 (by decide) (by decide) (by omega) w _ (Kp.refl _ _) HG.out).mono ?_
  rintro e w1 ⟨bm, rfl, hm1, _⟩
  have HM1 := hid hm1
  clear hm1
  go_wp2_with fail
  refine (nm_put txB tx2 (by decide) HG.out HM1.out).mono ?_
  rintro e w2 ⟨rfl, hm2⟩
  have HM2 := hid hm2
  clear hm2
  go_wp2_with fail
  refine (nm_put txA tx1 (by decide) HG.out HM2.out).mono ?_
  rintro e w3 ⟨rfl, hm3⟩
  obtain ⟨M, hM⟩ : ∃ M, (putP (sipP 0 0) (putP (sipP 0 0) (madeP 1) txB tx2).1 txA tx1).1 = M := ⟨_, rfl⟩
  have hP := (lives_pairs (sipP 0 0)).2
  rw [hM] at hm3 hP
  have HM3 := hid hm3
  have HP := hid hP
  clear hm3 hM hP
  go_wp2_with fail
  obtain ⟨O, hL, hO, hk⟩ := HM3.out
  have HL := hid hL
  have HO := hid hO
  have HK := hid hk
  clear hL hO hk
  refine (irange_any 0 0 (some bm) M O txA ByteArray.empty 1 w3 HL.out).mono ?_
  rintro e w4 ⟨v4, rfl, hr4, k4⟩
  rw [HP.out] at hr4
  have hr4' : w4.ownsRow w3.heap.size 42 2 v4 1 [.string txA, .string tx1] := hr4
  rcases own_at hr4' with ⟨_, e, _⟩ | ⟨g4, cap4, cur4, rfl, hb4, hg4, hat4⟩
  · cases e
  have HB4 := hid hb4
  have HA4 := hid (And.intro (hat4 0 _ rfl) (hat4 1 _ rfl))
  have HK4 := hid k4
  clear k4 hr4 hr4' hb4 hat4 hg4
  go_wp2_with fail
  refine (iexport_any 0 0 (some bm) M O w4 (by rw [HP.out]; intro x hx; rcases List.mem_cons.1 hx with rfl | hx <;> (try rw [List.mem_singleton] at hx) <;> (try subst hx) <;> decide) (HL.out.kept HK4.out (fun _ _ => trivial))).mono ?_
  rintro e w5 ⟨⟨v5, rfl, hr5⟩, k5⟩
  rw [HP.out, imgL] at hr5
  obtain ⟨A5, c5, rfl⟩ := own_shape hr5
  have HR5 := hid hr5
  have HK5 := hid k5
  clear hr5 k5
  go_wp2_with fail
  obtain ⟨w6, hw6⟩ : ∃ w6, w5.alloc (Obj.cells #[Value.int IntKind.u8 2, Value.int IntKind.u8 1, Value.int IntKind.u8 97, Value.int IntKind.u8 1, Value.int IntKind.u8 49, Value.int IntKind.u8 1, Value.int IntKind.u8 98, Value.int IntKind.u8 1, Value.int IntKind.u8 50] 5) = w6 := ⟨_, rfl⟩
  have k6 : Kp All w5 w6 := hw6 ▸ Kp.al _ _
  have b6 : w6.heap[w5.heap.size]? = some (Obj.cells #[Value.int IntKind.u8 2, Value.int IntKind.u8 1, Value.int IntKind.u8 97, Value.int IntKind.u8 1, Value.int IntKind.u8 49, Value.int IntKind.u8 1, Value.int IntKind.u8 98, Value.int IntKind.u8 1, Value.int IntKind.u8 50] 5) := by rw [← hw6]; exact blk_new _ _
  have hs6 : Sl (some ⟨w5.heap.size, 0, none⟩) 9 9 1 (u8s [2, 1, 97, 1, 49, 1, 98, 1, 50]) w6 := by
    refine ⟨rfl, Nat.le_refl _, fun _ => ⟨_, 0, rfl, fun j u hj => ?_⟩⟩
    rw [show u8s [2, 1, 97, 1, 49, 1, 98, 1, 50] = (#[Value.int IntKind.u8 2, Value.int IntKind.u8 1, Value.int IntKind.u8 97, Value.int IntKind.u8 1, Value.int IntKind.u8 49, Value.int IntKind.u8 1, Value.int IntKind.u8 98, Value.int IntKind.u8 1, Value.int IntKind.u8 50] : Array Value).toList from by kernel_rfl] at hj
    rw [Nat.zero_add, blk_cell b6, ← Array.getElem?_toList]
    exact hj
  rw [hw6]
  have HK6 := hid k6
  have HR6 := hid (own_sl (own_kept HR5.out k6 (fun _ _ => trivial)) (Nat.le_refl _)).1
  have HS6 := hid hs6
  clear hw6 k6 b6 hs6
  refine (rsame_any A5 _ 9 c5 9 9 [2, 1, 97, 1, 49, 1, 98, 1, 50] _ rfl rfl w6 HR6.out HS6.out).mono ?_
  rintro e w7 ⟨rfl, hw⟩
  subst hw
  rw [show decide (([2, 1, 97, 1, 49, 1, 98, 1, 50] : By) = [2, 1, 97, 1, 49, 1, 98, 1, 50]) = true from rfl]
  have k46 := HK5.out.trans HK6.out
  have p1 : w6.cell? ⟨g4, 0, none⟩ = some (.string ⟨#[97]⟩) := k46.cell HA4.out.1 trivial
  have p2 : w6.cell? ⟨g4, 1, none⟩ = some (.string ⟨#[49]⟩) := k46.cell HA4.out.2 trivial
  have hlt4 := World.block_lt_of_cell? _ _ p1
  clear k46
  go_wp2_with fail
  have HK36 := hid (HK4.out.trans (HK5.out.trans HK6.out))
  have HL6 := hid (HL.out.kept HK36.out (fun _ _ => trivial))
  have HK06 := hid (HK.out.trans HK36.out)
  refine (mcopy_any 0 0 bm M O w6 (HG.out.kept HK06.out trivial) HL6.out).mono ?_
  rintro e w8 ⟨bn, O', rfl, hL8, _, k8⟩
  have HL8 := hid hL8
  have HK8 := hid k8
  clear hL8 k8
  go_wp2_with fail
  refine (isame_any 0 0 0 0 (some bm) (some bn) M M O O' w8 (HL6.out.kept HK8.out (fun _ _ => trivial)) HL8.out).mono ?_
  rintro e w9 ⟨rfl, k9⟩
  have HK9 := hid k9
  clear k9
  rw [show decide (pairsP M = pairsP M) = true from decide_eq_true rfl]
  go_wp2_with fail
  go_ret
  exact ⟨rfl, HK06.out.trans (HK8.out.trans HK9.out)⟩
end Go.Proofs.YtodledidabdkaaaDoor
