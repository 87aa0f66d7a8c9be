/- slices.Grow of the nil row of bytes, by the library's contract. slices.Concat over a row of rows of bytes: walked once. The snapshot layer's may: walked once. No condition on the disk but that it lies as Dk says. The snapshot layer's Join: walked once. No condition but that the bytes lie and are not great. -/
import Derived.Test.YtbkhademplgicaaGreatDoorM9
import Derived.Test.YtbkhademplgicaaGreatDoorIG
set_option linter.unusedVariables false
set_option linter.unusedSimpArgs false
namespace Go.Proofs.YtbkhademplgicaaGreatDoor
open Go.RowKit
set_option linter.unusedVariables false
set_option linter.unusedSimpArgs false
theorem info_u8i : (Tryz.prog.info? 5).map (fun i => (i.zero, i.size, i.bytes)) = some (some (.int .u8 0), 1, 1) := by kernel_rfl
theorem grow_any (n : Nat) (hn : n ≤ 4000000) (w : World) :
    Calls Tryz.prog 87 #[.slice none 0 0, .int .i64 n] w fun e w' => ∃ v, e = .returned v ∧ w'.ownsRow w.heap.size 5 1 v 0 [] ∧ Kp All w w' := by
  obtain ⟨i0, hi, hz0, hz1, hz2⟩ := info_parts info_u8i
  by_cases h0 : n = 0
  · subst h0
    refine (Any8.slices_Grow_room Tryz.growL none 0 0 0 w (Nat.le_refl _) (by omega) (by omega) (Nat.le_refl _)).mono ?_
    rintro e w' ⟨rfl, rfl⟩
    exact ⟨_, rfl, World.ownsRow_nil _ _ _ _, Kp.refl _ _⟩
  · have hmx := max63
    refine (Any8.slices_Grow_grow Tryz.growL i0 (.int .u8 0) hi hz0 (by rw [hz1]; omega) none 0 0 n [] w (Nat.le_refl _) (by omega) (by rw [hz2]; omega) (by omega) (by simp) (fun _ => rfl) (fun a h => by cases h)).mono ?_
    rintro e w' ⟨rfl, rfl⟩
    have hge := grownCap_ge w (0 + n) 0 5
    have hcm := grownCap_le_maxLen w (0 + n) 0 5 (by omega)
    refine ⟨_, rfl, ⟨rfl, .inr ⟨_, _, _, rfl, Nat.le_refl _, blk_new w.drew _, Nat.zero_le _, hcm, ?_, by simp⟩⟩, (Kp.refl _ _).drew.trans (Kp.al _ _)⟩
    simp only [Array.size_append, List.size_toArray, List.length_nil, size_zeroCells]
    have e1 : (Value.int IntKind.u8 0).cells.size = 1 := rfl
    rw [e1]
    change 0 + (0 + n - 0) * 1 + (grownCap w (0 + n) 0 5 - (0 + n)) * 1 = grownCap w (0 + n) 0 5 * 1
    omega
end Go.Proofs.YtbkhademplgicaaGreatDoor

namespace Go.Proofs.YtbkhademplgicaaGreatDoor
open Go.RowKit
set_option linter.unusedVariables false
set_option linter.unusedSimpArgs false
/-- The rows behind the headers. -/
def RowsAt (xs : List Hd) (ls : List By) (w : World) : Prop := xs.length = ls.length ∧ ∀ (i : Nat) x l, xs[i]? = some x → ls[i]? = some l → l.length = x.2.1 ∧ Foot All (Sl x.1 x.2.1 x.2.2 1 (u8s l)) w
theorem flatB_take {ls : List By} {k : Nat} {l : By} (h : ls[k]? = some l) : (ls.take (k + 1)).flatten = (ls.take k).flatten ++ l := by
  rw [List.take_add_one, h]
  simp
theorem flatB_le {ls : List By} (k : Nat) : (ls.take k).flatten.length ≤ ls.flatten.length := by
  have h : ls.flatten = (ls.take k).flatten ++ (ls.drop k).flatten := by rw [← List.flatten_append, List.take_append_drop]
  rw [h, List.length_append]
  omega
set_option maxRecDepth 100000 in
set_option maxHeartbeats 2000000 in
theorem concat_any (A : Option Addr) (q c : Nat) (xs : List Hd) (ls : List By) (hq : xs.length = q) (hq1 : q ≤ 1000000) (hl : ls.flatten.length ≤ 4000000) (w : World) (h : Foot All (Sl A q c 1 (xs.map hdV)) w) (hr : RowsAt xs ls w) :
    Calls Tryz.prog 42 #[.slice A q c] w (OutB w ls.flatten) := by
  have H := hid h; have HR := hid hr; have HQ := hid hq; have HL := hid hl
  clear h hr hq hl
  have cell : ∀ (u : World) (k : Nat) (x : Hd), Kp All w u → xs[k]? = some x → ∃ b o, A = some ⟨b, o, none⟩ ∧ u.cell? ⟨b, o + k, none⟩ = some (.slice x.1 x.2.1 x.2.2) := by
    intro u k x hu hx
    have h1 := (H.out.step hu).now
    obtain ⟨b, o, e, hr⟩ := h1.2.2 (by have := (List.getElem?_eq_some_iff.1 hx).1; rw [← HQ.out]; omega)
    exact ⟨b, o, e, hr k _ (by rw [List.getElem?_map, hx]; rfl)⟩
  have HC := hid cell
  clear cell
  go_enter Tryz.func42, Tryz.ntmps42
  go_wp2_with fail
  go_loop [3, 11] (fun s i => ∃ k m : Nat, k ≤ q ∧ i = .int .i64 k ∧ s = .int .i64 m ∧ m ≤ 4000000 ∧ Hid (m = ((ls.take k).flatten).length)) (fun _ i => q - (intOf i).toNat)
  case atStart => exact ⟨0, 0, Nat.zero_le _, rfl, rfl, by omega, hid rfl⟩
  case round =>
    obtain ⟨k, m, hk, rfl, rfl, hm, hM⟩ := hrel
    by_cases hlt : k < q
    · have hb0 : decide ((k : Int) < (q : Int)) = true := decide_eq_true (by omega)
      obtain ⟨⟨x1, x2, x3⟩, hx⟩ : ∃ x, xs[k]? = some x := ⟨_, List.getElem?_eq_getElem (by rw [HQ.out]; exact hlt)⟩
      obtain ⟨l, hy⟩ : ∃ l, ls[k]? = some l := ⟨_, List.getElem?_eq_getElem (by rw [← HR.out.1, HQ.out]; exact hlt)⟩
      obtain ⟨b, o, rfl, hc⟩ := HC.out _ _ _ (Kp.refl _ w) hx
      have hx2 := (HR.out.2 k _ l hx hy).1
      simp only at hc hx2
      have hm2 : m + x2 = ((ls.take (k + 1)).flatten).length := by rw [flatB_take hy, List.length_append, ← hM.out, hx2]
      have hm3 : m + x2 ≤ 4000000 := by rw [hm2]; exact Nat.le_trans (flatB_le _) HL.out
      have hng : decide (((m : Int) + (x2 : Int)) < 0) = false := decide_eq_false (by omega)
      have HM2 := hid hm2
      clear hx hy hx2 hm2
      have i0 : (0 : Int) ≤ (k : Int) := by omega
      have i1 : (k : Int) < (q : Int) := by omega
      go_wp2_with fail
      exact ⟨⟨k + 1, m + x2, by omega, by go_num, by go_num, hm3, HM2⟩, by simp [intOf]; omega⟩
    · have hb0 : decide ((k : Int) < (q : Int)) = false := decide_eq_false (by omega)
      go_wp2_with fail
      refine (grow_any m hm w).mono ?_
      rintro e w2 ⟨v2, rfl, ho2, hk2⟩
      obtain ⟨A2, c2, rfl⟩ := own_shape ho2
      have HO2 := hid ho2; have HK2 := hid hk2
      clear ho2 hk2
      go_wp2_with fail
      go_loopw [6, 27] (fun v i wr => ∃ j : Nat, j ≤ q ∧ i = .int .i64 j ∧ Hid (wr.ownsRow w.heap.size 5 1 v ((ls.take j).flatten).length (u8s ((ls.take j).flatten))) ∧ Hid (Kp All w wr)) (fun _ i _ => q - (intOf i).toNat)
      case atStart => exact ⟨0, Nat.zero_le _, rfl, HO2, HK2⟩
      case round =>
        obtain ⟨j, hj, rfl, hO, hK⟩ := hrel
        by_cases hlt2 : j < q
        · have hb1 : decide ((j : Int) < (q : Int)) = true := decide_eq_true (by omega)
          obtain ⟨⟨x1, x2, x3⟩, hx⟩ : ∃ x, xs[j]? = some x := ⟨_, List.getElem?_eq_getElem (by rw [HQ.out]; exact hlt2)⟩
          obtain ⟨l, hy⟩ : ∃ l, ls[j]? = some l := ⟨_, List.getElem?_eq_getElem (by rw [← HR.out.1, HQ.out]; exact hlt2)⟩
          obtain ⟨b, o, rfl, hc⟩ := HC.out _ _ _ hK.out hx
          obtain ⟨hx2, hsl⟩ := HR.out.2 j _ l hx hy
          simp only at hc hx2 hsl
          have HS := hid (hsl.step hK.out)
          obtain ⟨A5, c5, rfl⟩ := own_shape hO.out
          obtain ⟨m5, hm5⟩ : ∃ m5, ((ls.take j).flatten).length = m5 := ⟨_, rfl⟩
          have HM5 := hid hm5; have HX2 := hid hx2; have HY := hid hy
          rw [hm5] at hO ⊢
          have hb5 : m5 + x2 ≤ 4000000 := by
            have h1 : ((ls.take (j + 1)).flatten).length = m5 + x2 := by rw [flatB_take hy, List.length_append, hm5, hx2]
            rw [← h1]
            exact Nat.le_trans (flatB_le _) HL.out
          clear hm5 hx2 hsl hx hy
          have i0 : (0 : Int) ≤ (j : Int) := by omega
          have i1 : (j : Int) < (q : Int) := by omega
          go_wp2_with (at_builtin; go_loud (refine wpList_app el8 hO.out HS.out.now (u8s_one l) ?_ hK.out.size rfl _ _ rfl rfl rfl ?_); omega; intro v' w5 hown5 hg5 hob5 hnil5; obtain ⟨A6, c6, rfl⟩ := own_shape hown5; have HOW := hid hown5; have HG5 := hid hg5; clear hown5 hg5 hob5 hnil5)
          refine ⟨⟨j + 1, by omega, by go_num, ?_, ?_⟩, by simp [intOf]; omega⟩
          · have h5 := HOW.out
            rw [← u8s_append, ← flatB_take HY.out] at h5
            have h6 : ((ls.take (j + 1)).flatten).length = m5 + x2 := by rw [flatB_take HY.out, List.length_append, HM5.out, HX2.out]
            rw [h6]
            exact hid h5
          · exact hid (hK.out.then (Kp.grown HG5.out) (fun i hi _ e => by
              have := (hO.out.lt i e.symm).1
              omega))
        · have hb1 : decide ((j : Int) < (q : Int)) = false := decide_eq_false (by omega)
          obtain rfl : j = q := by omega
          have e7 : (ls.take j).flatten = ls.flatten := by rw [List.take_of_length_le (by rw [← HR.out.1, HQ.out]; exact Nat.le_refl _)]
          obtain ⟨A7, c7, rfl⟩ := own_shape hO.out
          rw [e7] at hO ⊢
          obtain ⟨m7, hm7⟩ : ∃ m7, ls.flatten.length = m7 := ⟨_, rfl⟩
          have HM7 := hid hm7
          rw [hm7]
          clear hm7 e7
          go_wp2_with fail
          go_ret
          exact ⟨⟨_, rfl, by have := hO.out; rwa [HM7.out] at this ⊢⟩, hK.out⟩
end Go.Proofs.YtbkhademplgicaaGreatDoor

namespace Go.Proofs.YtbkhademplgicaaGreatDoor
open Go.RowKit
set_option linter.unusedVariables false
set_option linter.unusedSimpArgs false
def snMay (D : DS) : Int := if D.off then 9 else 0
set_option maxRecDepth 100000 in
theorem snmay_any (p : Nat) (ro : Nat → Role) (D : DS) (w : World) (h : Dk w p ro D) :
    Calls Tryz.prog 53 #[.pointer (some ⟨p, 0, none⟩)] w fun e w' => e = .returned (.int .i64 (snMay D)) ∧ Kp All w w' := by
  have HR := hid (read_any p ro D ⟨#[45]⟩ w h)
  clear h
  obtain ⟨r, hr⟩ : ∃ r, readErr D ⟨#[45]⟩ = r := ⟨_, rfl⟩
  have H3 : (r = 9 ∧ snMay D = 9) ∨ (r = 0 ∧ snMay D = 0) ∨ (r = 4 ∧ snMay D = 0) := by
    rw [← hr]
    unfold readErr snMay
    cases D.off
    · cases (aget D.F (⟨#[45]⟩ : Nm)).isSome <;> simp
    · simp
  rw [hr] at HR
  clear hr
  rcases H3 with ⟨rfl, hm⟩ | ⟨rfl, hm⟩ | ⟨rfl, hm⟩
  all_goals
    rw [hm]
    go_enter Tryz.func53, Tryz.ntmps53
    go_wp2_with fail
    refine HR.out.mono ?_
    rintro e w2 ⟨v2, rfl, ho2, hk2⟩
    obtain ⟨A2, c2, rfl⟩ := own_shape ho2
    obtain ⟨q, hq⟩ : ∃ q, (readB D ⟨#[45]⟩).length = q := ⟨_, rfl⟩
    rw [hq]
    have HK2 := hid hk2
    clear ho2 hk2 hq
    go_wp2_with fail
    go_ret
    exact ⟨rfl, HK2.out⟩
end Go.Proofs.YtbkhademplgicaaGreatDoor

namespace Go.Proofs.YtbkhademplgicaaGreatDoor
open Go.RowKit
set_option linter.unusedVariables false
set_option linter.unusedSimpArgs false
def JoinR (xs : By) (w : World) (e : Ending) (w' : World) : Prop := Kp All w w' ∧ match joinP xs with
  | some x => ∃ VA LA DA vc lc dc, e = .returned (.tuple #[.agg #[.int .i64 x.index, .int .i64 x.term, .slice VA x.V.length vc, .slice LA x.L.length lc, .slice DA x.data.length dc], .int .i64 0]) ∧ SnpS (fun i => w.heap.size < i) x VA LA DA x.V.length vc x.L.length lc x.data.length dc w'
  | none => e = .returned (.tuple #[.agg #[.int .i64 0, .int .i64 0, .slice none 0 0, .slice none 0 0, .slice none 0 0], .int .i64 8])
/-- The loop's state: rest R, data D, what the whole makes. -/
structure JSt (n : Nat) (xs : By) (w1 : World) (R D : By) (A : Option Addr) (n5 c5 m f : Nat) (fb : Bool) (v : Value) (wr : World) : Prop where
  rl : R.length = n5
  r : Foot All (Sl A n5 c5 1 (u8s R)) w1
  dl : D.length = m
  o : wr.ownsRow w1.heap.size 5 1 v m (u8s D)
  k : Kp All w1 wr
  j : joinL (n + 1) xs true [] = joinL f R fb D
  fu : n5 < f
  sm : m + n5 ≤ n
theorem joinL_end {f : Nat} {R D : By} {fb : Bool} (h : R.length = 0) (hf : 0 < f) : joinL f R fb D = some D := by
  obtain ⟨f, rfl⟩ : ∃ g, f = g + 1 := ⟨f - 1, by omega⟩
  rw [joinL, if_pos h]
theorem joinL_bad {f : Nat} {R D : By} {fb : Bool} (h : R.length ≠ 0) (he : (unfP R).2.2 ≠ 0) : joinL f R fb D = none := by
  cases f with
  | zero => rfl
  | succ f => rw [joinL, if_neg h, if_pos he]
theorem joinP_none {xs : By} (h : joinL (xs.length + 1) xs true [] = none) : joinP xs = none := by
  unfold joinP
  rw [h]
theorem chunks_small {x : Sn} (hg : goodSnap x = true) : (chunksB x).length ≤ 1000 ∧ (chunksB x).flatten.length ≤ 4000000 := by
  have h1 := headB_len x; have h2 := encSnap_len hg; have h3 := whole_len x
  have h4 : (partsB x).length ≤ 600 := by
    rw [partsB_range, List.length_map, List.length_range]
    omega
  refine ⟨by rw [chunksB, List.length_cons, List.length_map]; omega, ?_⟩
  show (wholeB x).length ≤ _
  rw [h3]; omega
theorem rowsAt_frB {base : Nat} {hs : List Hd} {ls : List By} {w : World} (h : FrB base hs ls w) : RowsAt hs ls w := by
  refine ⟨h.1, fun i x l hx hl => ?_⟩
  obtain ⟨A, n, c⟩ := x
  have h1 := h.2 i _ l hx hl
  obtain ⟨A', c', e⟩ := own_shape h1
  injection e with e1 e2 e3
  subst e1 e2 e3
  exact ⟨rfl, own_footA h1⟩
set_option maxRecDepth 100000 in
set_option maxHeartbeats 1000000 in
theorem join_any (A : Option Addr) (n c : Nat) (xs : By) (hn : xs.length = n) (hl : n ≤ 4000000) (w : World) (h : Foot All (Sl A n c 1 (u8s xs)) w) :
    Calls Tryz.prog 12 #[.slice A n c] w (JoinR xs w) := by
  have HN := hid hn
  have k1 := Kp.al w (Obj.cells #[.int .i64 0, .int .i64 0, .slice none 0 0, .slice none 0 0, .slice none 0 0] 27)
  have b1 := blk_new w (Obj.cells #[.int .i64 0, .int .i64 0, .slice none 0 0, .slice none 0 0, .slice none 0 0] 27)
  have H := hid (h.step k1)
  obtain ⟨w1, hw1⟩ : ∃ w1, w1 = w.alloc (Obj.cells #[.int .i64 0, .int .i64 0, .slice none 0 0, .slice none 0 0, .slice none 0 0] 27) := ⟨_, rfl⟩
  have hz1 : w1.heap.size = w.heap.size + 1 := by rw [hw1, World.size_alloc]
  have HW1 := hid hw1
  rw [← hw1] at H k1 b1
  have K1 := hid k1; have B1 := hid b1; have Z1 := hid hz1
  clear h hn hw1 k1 b1 hz1
  go_enter Tryz.func12, Tryz.ntmps12
  go_wp2_with fail
  rw [← HW1.out]
  go_loopw [4, 5, 6] (fun v r b wr => ∃ A5 n5 c5 R D fb f m, r = .slice A5 n5 c5 ∧ b = .bool fb ∧ Hid (JSt n xs w1 R D A5 n5 c5 m f fb v wr)) (fun _ r _ _ => (match r with | .slice _ k _ => k | _ => 0))
  case atStart => exact ⟨A, n, c, xs, [], true, n + 1, 0, rfl, rfl, hid ⟨HN.out, H.out, rfl, World.ownsRow_nil _ _ _ _, Kp.refl _ _, rfl, by omega, by omega⟩⟩
  case round =>
    obtain ⟨A5, n5, c5, R, D, fb, f, m, rfl, rfl, hJ⟩ := hrel
    by_cases h0 : n5 = 0
    · have d0 : decide ((0 : Int) < (n5 : Int)) = false := decide_eq_false (by omega)
      have hJ5 := hJ.out
      obtain ⟨A4, c4, rfl⟩ := own_shape hJ5.o
      go_wp2_with fail
      refine (readsnap_any A4 m c4 D hJ5.dl (by have := hJ5.sm; omega) wr (Foot.mono (own_footA hJ5.o) (fun _ _ _ => trivial))).mono ?_
      rintro e w2 ⟨hk2, hr2⟩
      have hjl : joinL (n + 1) xs true [] = some D := by
        rw [hJ5.j]
        exact joinL_end (by rw [hJ5.rl]; exact h0) (by have := hJ5.fu; omega)
      have hkk := hJ5.k.trans hk2
      have HJL := hid hjl; have HKK := hid hkk
      have HB2 := hid (hkk.heap B1.out trivial)
      have HWS := hid hJ5.k.size
      clear hjl hkk hJ5 hk2
      cases hrs : readSnapP D with
      | none =>
        rw [hrs] at hr2
        dsimp only at hr2
        subst hr2
        have HRS := hid (show joinP xs = none by rw [joinP, HN.out, HJL.out]; dsimp only; rw [hrs])
        have hb7 := blk_alloc HB2.out (Obj.cells #[.int .i64 0, .int .i64 0, .slice none 0 0, .slice none 0 0, .slice none 0 0] 27)
        have c7 := blk_cell hb7
        have f7 := blk_free hb7
        have HB7 := hid hb7
        clear hrs hb7
        go_wp2_with fail
        have cF := blk_cell (set5 (v0 := .int .i64 0) (v1 := .int .i64 0) (v2 := .slice none 0 0) (v3 := .slice none 0 0) (v4 := .slice none 0 0) HB7.out)
        refine bodyPost_ret (v := .tuple #[.agg #[.int .i64 0, .int .i64 0, .slice none 0 0, .slice none 0 0, .slice none 0 0], .int .i64 8]) (by simp [results, Tryz.results12, go_sem, cF]) rfl ⟨((K1.out.trans HKK.out).alloc _).then kp5 (fun i hi _ e => by omega), ?_⟩
        rw [HRS.out]
      | some x =>
        rw [hrs] at hr2
        dsimp only at hr2
        obtain ⟨VA, LA, DA, vc, lc, dc, rfl, hsx⟩ := hr2
        have hg := (readSnapP_some hrs).1
        obtain ⟨vn, hvn⟩ : ∃ vn, x.V.length = vn := ⟨_, rfl⟩
        obtain ⟨ln, hln⟩ : ∃ ln, x.L.length = ln := ⟨_, rfl⟩
        obtain ⟨dn, hdn⟩ : ∃ dn, x.data.length = dn := ⟨_, rfl⟩
        have hle : 9 * (vn + ln) + dn ≤ 1500000 := by
          obtain ⟨h1, h2, h3⟩ := goodSnap_lens hg
          omega
        rw [hvn, hln, hdn] at hsx ⊢
        obtain ⟨bb, hbb⟩ : ∃ bb, decide (wholeB x = xs) = bb := ⟨_, rfl⟩
        have HRS := hid (show joinP xs = if bb = true then some x else none by
          rw [joinP, HN.out, HJL.out]; dsimp only; rw [hrs]; dsimp only; rw [← hbb]; simp)
        have HBB := hid hbb; have HVN := hid hvn; have HLN := hid hln; have HDN := hid hdn; have HG := hid hg; have HSX := hid hsx
        clear hrs hvn hln hdn hbb hg hsx
        go_wp2_with fail
        have kb := Kp.al w2 (Obj.cells #[.int .i64 x.index, .int .i64 x.term, .slice VA vn vc, .slice LA ln lc, .slice DA dn dc] 27)
        have HB7 := hid (blk_alloc HB2.out (Obj.cells #[.int .i64 x.index, .int .i64 x.term, .slice VA vn vc, .slice LA ln lc, .slice DA dn dc] 27))
        have b7 := blk_new w2 (Obj.cells #[.int .i64 x.index, .int .i64 x.term, .slice VA vn vc, .slice LA ln lc, .slice DA dn dc] 27)
        obtain ⟨W7, hW7⟩ : ∃ W7, W7 = w2.alloc (Obj.cells #[.int .i64 x.index, .int .i64 x.term, .slice VA vn vc, .slice LA ln lc, .slice DA dn dc] 27) := ⟨_, rfl⟩
        rw [← hW7] at HB7 b7 kb ⊢
        have c7 := blk_cell b7
        have B7 := hid b7; have KB := hid kb; have K7 := hid (HKK.out.trans kb)
        have HS7 := hid (HSX.out.snp.step kb)
        clear b7 kb hW7
        refine (chunks_any x VA LA DA vn vc ln lc dn dc (by have := hle; exact this) W7 HS7.out).mono ?_
        intro e w8 hch
        rw [ChP, if_pos HG.out] at hch
        obtain ⟨v8, hs, rfl, ho8, hf8, hk8⟩ := hch
        obtain ⟨A8, c8, rfl⟩ := own_shape ho8
        have hq8 : hs.length = (chunksB x).length := hf8.1
        obtain ⟨h81, h82⟩ := chunks_small HG.out
        have hra := rowsAt_frB hf8
        have hf := own_footA ho8
        have HF := hid hf; have HRA := hid hra; have HQ := hid h81; have HQ2 := hid h82; have HQ3 := hid hq8
        have HK8 := hid (K7.out.trans hk8)
        have HL8 := hid (KB.out.trans hk8)
        have HB8 := hid (hk8.heap HB7.out trivial)
        have HS8 := hid (hk8.heap B7.out trivial)
        obtain ⟨q, hq⟩ : ∃ q, hs.length = q := ⟨_, rfl⟩
        have HQQ := hid hq
        rw [hq] at HF ⊢
        clear ho8 hf8 hk8 hq8 h81 h82 hra hf hq
        go_wp2_with fail
        refine (concat_any A8 q c8 hs (chunksB x) HQQ.out (by have h1 := HQ.out; have h2 := HQ3.out; have h3 := HQQ.out; omega) HQ2.out w8 HF.out HRA.out).mono ?_
        rintro e w9 ⟨⟨v9, rfl, ho9⟩, hk9⟩
        obtain ⟨A9, c9, rfl⟩ := own_shape ho9
        obtain ⟨t, ht⟩ : ∃ t, (chunksB x).flatten.length = t := ⟨_, rfl⟩
        have hf9 := own_footA ho9
        have hbb9 : decide ((chunksB x).flatten = xs) = bb := HBB.out
        have HT := hid ht; have HF9 := hid hf9; have HB9 := hid hbb9
        have HK9 := hid (HK8.out.trans hk9)
        have HL9 := hid (HL8.out.trans hk9)
        have HBX9 := hid (hk9.heap HB8.out trivial)
        have HBS9 := hid (hk9.heap HS8.out trivial)
        have HQ4 := hid (show t ≤ 4000000 by rw [← ht]; exact HQ2.out)
        rw [ht] at HF9 ⊢
        clear ho9 hk9 hf9 ht hbb9
        go_wp2_with fail
        refine (equal_any A9 A t n c9 c (chunksB x).flatten xs HT.out HN.out (by have := HQ4.out; omega) (by omega) w9 HF9.out (H.out.step HK9.out)).mono ?_
        rw [HB9.out]
        rintro e w10 ⟨rfl, hk10⟩
        have HK10 := hid (K1.out.trans (HK9.out.trans hk10))
        have HL10 := hid (HL9.out.trans hk10)
        have HB10 := hid (hk10.heap HBX9.out trivial)
        have HS10 := hid (hk10.heap HBS9.out trivial)
        have c10 := blk_cell HB10.out; have f10 := blk_free HB10.out
        have s10 := blk_cell HS10.out
        clear hk10
        cases bb with
        | false =>
          go_wp2_with fail
          have cF := blk_cell (set5 (v0 := .int .i64 0) (v1 := .int .i64 0) (v2 := .slice none 0 0) (v3 := .slice none 0 0) (v4 := .slice none 0 0) HB10.out)
          refine bodyPost_ret (v := .tuple #[.agg #[.int .i64 0, .int .i64 0, .slice none 0 0, .slice none 0 0, .slice none 0 0], .int .i64 8]) (by simp [results, Tryz.results12, go_sem, cF]) rfl ⟨HK10.out.then kp5 (fun i hi _ e => by omega), ?_⟩
          rw [HRS.out, if_neg (by simp)]
        | true =>
          go_wp2_with fail
          have cF := blk_cell (set5 (v0 := .int .i64 x.index) (v1 := .int .i64 x.term) (v2 := .slice VA vn vc) (v3 := .slice LA ln lc) (v4 := .slice DA dn dc) HB10.out)
          refine bodyPost_ret (v := .tuple #[.agg #[.int .i64 x.index, .int .i64 x.term, .slice VA vn vc, .slice LA ln lc, .slice DA dn dc], .int .i64 0]) (by simp [results, Tryz.results12, go_sem, cF]) rfl ⟨HK10.out.then kp5 (fun i hi _ e => by omega), ?_⟩
          rw [HRS.out]
          simp only [if_true]
          rw [HVN.out, HLN.out, HDN.out]
          refine ⟨VA, LA, DA, vc, lc, dc, rfl, ?_⟩
          have h9 := HSX.out.step HL10.out.all
          have hz := HWS.out
          have hz1 := Z1.out
          exact (h9.mono (T := fun i => w.heap.size < i) (fun i hi => by show w.heap.size < i; omega)).step ((kp5 (w := w10) (b := w.heap.size)).mono fun i _ hi => by show i ≠ w.heap.size; omega)
    · have d0 : decide ((0 : Int) < (n5 : Int)) = true := decide_eq_true (by omega)
      have hJ5 := hJ.out
      go_wp2_with fail
      refine (unframe_any A5 n5 c5 R hJ5.rl (by have := hJ5.sm; omega) _ (hJ5.r.step hJ5.k)).mono ?_
      rintro e w2 ⟨v2, rfl, ho2, hk2⟩
      obtain ⟨⟨cc, kk, er⟩, hu⟩ : ∃ u, unfP R = u := ⟨_, rfl⟩
      rw [hu] at ho2 ⊢
      dsimp only at ho2 ⊢
      obtain ⟨A2, c2, rfl⟩ := own_shape ho2
      have HO2 := hid ho2; have HK2 := hid hk2; have HU := hid hu
      clear ho2 hk2 hu hJ5
      by_cases he : er = 0
      case neg =>
        have d1 : (er != 0) = true := by simpa using he
        have d2 : (er == 0) = false := by simpa using he
        have hJ5 := hJ.out
        have hb2 := (hJ5.k.trans HK2.out).heap B1.out trivial
        have c2' := blk_cell hb2
        have f2' := blk_free hb2
        have hk2 : Kp All w w2 := K1.out.trans (hJ5.k.trans HK2.out)
        have hjn : joinP xs = none := joinP_none (by
          rw [HN.out, hJ5.j]
          exact joinL_bad (by rw [hJ5.rl]; exact h0) (by rw [HU.out]; exact he))
        have HB2 := hid hb2; have HKK := hid hk2; have HJN := hid hjn
        clear hb2 hk2 hjn hJ5
        go_wp2_with fail
        have cF := blk_cell (set5 (v0 := .int .i64 0) (v1 := .int .i64 0) (v2 := .slice none 0 0) (v3 := .slice none 0 0) (v4 := .slice none 0 0) HB2.out)
        refine bodyPost_ret (v := .tuple #[.agg #[.int .i64 0, .int .i64 0, .slice none 0 0, .slice none 0 0, .slice none 0 0], .int .i64 8]) (by simp [results, Tryz.results12, go_sem, cF]) rfl ⟨HKK.out.then kp5 (fun i hi _ e => by omega), ?_⟩
        rw [HJN.out]
      subst he
      obtain ⟨hcl, hkk0, hR⟩ := unfP_ok HU.out
      have h8 : 8 ≤ kk := by omega
      obtain ⟨cl, hcle⟩ : ∃ cl, cc.length = cl := ⟨_, rfl⟩
      have hclk : cl + 8 = kk := by omega
      have HCL := hid hcle; have HCK := hid hclk; have HCM := hid hcl
      rw [hcle] at HO2 ⊢
      have hJ5 := hJ.out
      have hkn : kk ≤ n5 := by
        have := congrArg List.length hR
        rw [List.length_append, frameB_len, List.length_drop, hJ5.rl] at this
        omega
      clear hcl hkk0 hcle hclk
      have hnc := hJ5.r.now.2.1
      obtain ⟨b5, o5, rfl, hrd⟩ := hJ5.r.now.2.2 (by omega)
      obtain ⟨g, rfl⟩ : ∃ g, f = g + 1 := ⟨f - 1, by have := hJ5.fu; omega⟩
      have hjn : joinL (n + 1) xs true [] = joinL g (R.drop kk) false (if fb then D else D ++ cc) := by
        rw [hJ5.j, joinL, if_neg (by rw [hJ5.rl]; exact h0), if_neg (by rw [HU.out]; simp), HU.out]
      have hfo : Foot All (Sl (if c5 = kk then some ⟨b5, o5, none⟩ else some ⟨b5, o5 + kk, none⟩) (n5 - kk) (c5 - kk) 1 (u8s (R.drop kk))) w1 := fun u hu => by
        have h1 := sl_sub (lo := kk) (k := n5 - kk) hJ5.rl (hJ5.r u hu) (by omega)
        rw [List.take_of_length_le (by rw [List.length_drop, hJ5.rl]; exact Nat.le_refl _)] at h1
        by_cases hck : c5 = kk
        · exact ⟨h1.1, h1.2.1, fun hp => by omega⟩
        · rw [if_neg hck]; exact h1
      have hrl : (R.drop kk).length = n5 - kk := by rw [List.length_drop, hJ5.rl]
      have HJN := hid hjn; have HFO := hid hfo; have HRL := hid hrl; have HR := hid hR
      have hb2 : Kp All w1 w2 := hJ5.k.trans HK2.out
      have HKK := hid hb2
      have hown : w2.ownsRow w1.heap.size 5 1 u4 m (u8s D) := own_kept hJ5.o HK2.out (fun _ _ => trivial)
      have HOW := hid hown
      have i0 : (0 : Int) ≤ (kk : Int) := by omega
      have i1 : (kk : Int) ≤ (n5 : Int) := by omega
      have i2 : (n5 : Int) ≤ (c5 : Int) := by omega
      have i3 : (kk : Int) ≤ (c5 : Int) := by omega
      clear hrd hjn hfo hrl hR hb2 hown hJ5
      cases fb with
      | true =>
        go_wp2_with fail
        refine ⟨⟨_, _, _, R.drop kk, D, false, g, m, rfl, rfl, hid ⟨HRL.out, HFO.out, hJ.out.dl, HOW.out, HKK.out, HJN.out, ?_, ?_⟩⟩, ?_⟩
        · have := hJ.out.fu; omega
        · have := hJ.out.sm; omega
        · show n5 - kk < n5
          omega
      | false =>
        obtain ⟨A4, c4, rfl⟩ := own_shape HOW.out
        have hsl : Foot All (Sl A2 cl c2 1 (u8s cc)) w2 := own_footA HO2.out
        have HSL := hid hsl
        have hmn : m + cl ≤ 4000000 := by
          have h1 := hJ.out.sm; have h2 := HCK.out
          omega
        clear hsl
        go_wp2_with (at_builtin; go_loud (refine wpList_app el8 HOW.out HSL.out.now (u8s_one cc) ?_ HKK.out.size rfl _ _ rfl rfl rfl ?_); omega; intro v' w5 hown5 hg5 hob5 hnil5; obtain ⟨A6, c6, rfl⟩ := own_shape hown5; have HOW5 := hid hown5; have HG5 := hid hg5; clear hown5 hg5 hob5 hnil5)
        refine ⟨⟨_, _, _, R.drop kk, D ++ cc, false, g, m + cl, rfl, rfl, hid ⟨HRL.out, HFO.out, ?_, ?_, ?_, HJN.out, ?_, ?_⟩⟩, ?_⟩
        · rw [List.length_append, hJ.out.dl, HCL.out]
        · have := HOW5.out
          rwa [← u8s_append] at this
        · exact HKK.out.then (Kp.grown HG5.out) (fun i hi _ e => by
            have := (HOW.out.lt i e.symm).1
            omega)
        · have := hJ.out.fu; omega
        · have h1 := hJ.out.sm; have h2 := HCK.out
          omega
        · show n5 - kk < n5
          omega
end Go.Proofs.YtbkhademplgicaaGreatDoor
