/- The document's Lend and Kept: walked once each. No condition but where the bytes lie. The document's Read walked, on any bytes. No condition but that the bytes are not too many. The document's Import, the map's Controls and the document's Words walked. No condition but that the bytes are not too many, and that the maps lie. ImageImports walked. No condition but that the bytes lie, and where the library's variable lies. -/
import Derived.Test.YtodledidabdkaaaGreatDoorM20
import Derived.Laws.IdiomStrings
import Derived.Test.YtodledidabdkaaaGreatDoorM21
import Derived.Test.YtodledidabdkaaaGreatDoorM22
set_option linter.unusedVariables false
set_option linter.unusedSimpArgs false
namespace Go.Proofs.YtodledidabdkaaaGreatDoor
open Go.RowKit
set_option linter.unusedVariables false
set_option linter.unusedSimpArgs false
theorem conv_sl {w : World} {A : Option Addr} {c : Nat} {xs : By} (h : Sl A xs.length c 1 (u8s xs) w) : (convert 48 9 (.slice A xs.length c)).run Tryz.prog w = .ok (.string ⟨xs.toArray⟩) w := by
  obtain ⟨h1, h2, h3⟩ := h
  cases xs with
  | nil =>
    cases A with
    | none => exact run_convert_bytes_nil w _ _ Tryz.underlying48 Tryz.underlying5 0 c _ Tryz.underlying9
    | some a => exact run_convert_bytes_back w _ _ _ a c [] Tryz.underlying48 Tryz.underlying5 Tryz.underlying9 (fun j hj => absurd hj (by simp))
  | cons x xs =>
    obtain ⟨b, o, rfl, hr⟩ := h3 (by simp)
    refine run_convert_bytes_back w _ _ _ _ c (x :: xs) Tryz.underlying48 Tryz.underlying5 Tryz.underlying9 (fun j hj => ?_)
    rw [add_lit0]
    refine hr j _ ?_
    simp only [u8s, List.getElem?_map, List.getElem?_eq_getElem hj, Option.map_some]
/-- the greater memory: k bytes are handed over -/
def lcells (b : By) (k : Nat) : List Value := .int .u8 165 :: (u8s (b.take k) ++ List.replicate (b.length - k) (.int .u8 0)) ++ [.int .u8 90]
theorem lcells_set {b : By} {k : Nat} (hk : k < b.length) : (lcells b k).set (k + 1) (.int .u8 (b.getD k 0).toNat) = lcells b (k + 1) := by
  have hl : (u8s (b.take k)).length = k := by rw [u8s_len, List.length_take]; omega
  unfold lcells
  rw [List.cons_append, List.set_cons_succ, List.cons_append, List.append_assoc, List.append_assoc, List.set_append_right _ _ (by omega), hl, Nat.sub_self, List.take_add_one, List.getElem?_eq_getElem hk, u8s_append]
  have : b.length - k = (b.length - (k + 1)) + 1 := by omega
  rw [this, List.replicate_succ, List.cons_append, List.set_cons_zero, List.append_assoc, List.getD_eq_getElem?_getD, List.getElem?_eq_getElem hk]
  rfl
theorem mk_u8 (n : Nat) (hn : n ≤ 1000000) (w : World) :
    (Instr.makeSlice 48 (.int .i64 (n : Int)) (.int .i64 (n : Int))).run Tryz.prog w = .ok (.slice (some ⟨w.heap.size, 0, none⟩) n n) (w.alloc (.cells (List.replicate n (.int .u8 0)).toArray 5)) := by
  obtain ⟨i, hi, hz, hs, hb⟩ := info_parts el8.info
  have := run_make (P := Tryz.prog) w 48 5 i (.int .u8 0) el8.sl hi hz .i64 .i64 (n : Int) (n : Int) (by omega) (by omega) (by rw [hb]; omega) (by omega)
  have e : madeCells (Value.cells (.int .u8 0)) (n * 1) = (List.replicate n (Value.int .u8 0)).toArray := by
    rw [Nat.mul_one, ← toList_madeCells_one, Array.toArray_toList]; rfl
  rw [this, hs, Int.toNat_natCast, e]
def Lent (b : By) (n : Nat) (w : World) (e : Ending) (w' : World) : Prop := e = .returned (.tuple #[.slice (some ⟨w.heap.size, 0, none⟩) (n + 2) (n + 2), .slice (some ⟨w.heap.size, 1, none⟩) n (n + 1)]) ∧ w'.heap[w.heap.size]? = some (.cells (lcells b b.length).toArray 5 (0, 0)) ∧ Kp All w w'
set_option maxRecDepth 100000 in
set_option maxHeartbeats 1000000 in
theorem lend_any (A : Option Addr) (n c : Nat) (b : By) (hn : b.length = n) (hn9 : n ≤ 100000) (w : World) (h : Foot All (Sl A n c 1 (u8s b)) w) :
    Calls Tryz.prog 21 #[.slice A n c] w (Lent b n w) := by
  have H := hid h; have HN := hid hn
  clear h hn
  have hmk := mk_u8 (n + 2) (by omega) w
  rw [show ((n + 2 : Nat) : Int) = (n : Int) + 2 from by omega] at hmk
  have hw2 : IntKind.i64.wrap ((n : Int) + 2) = ((n + 2 : Nat) : Int) := by rw [IntWalk.i64_in _ (by omega)]; omega
  go_enter Tryz.func21, Tryz.ntmps21
  go_wp2_with fail
  obtain ⟨w3, hw3⟩ : ∃ w3, w3 = w.alloc (.cells (((Array.replicate (n + 2) (Value.int .u8 0)).setIfInBounds 0 (.int .u8 165)).setIfInBounds (n + 1) (.int .u8 90)) 5) := ⟨_, rfl⟩
  have hb3 : w3.heap[w.heap.size]? = some (.cells (lcells b 0).toArray 5 (0, 0)) := by
    rw [hw3, blk_new w _]
    have : (((Array.replicate (n + 2) (Value.int .u8 0)).setIfInBounds 0 (.int .u8 165)).setIfInBounds (n + 1) (.int .u8 90)) = (lcells b 0).toArray := by
      unfold lcells
      rw [← List.toArray_replicate, List.setIfInBounds_toArray, List.setIfInBounds_toArray, List.replicate_succ, List.set_cons_zero, List.set_cons_succ, HN.out, Nat.sub_zero, List.take_zero, List.replicate_succ', List.set_append_right _ _ (by simp)]
      simp [u8s]
    rw [this]
  have hk3 : Kp All w w3 := by rw [hw3]; exact Kp.al _ _
  have HB3 := hid hb3; have HK3 := hid hk3
  rw [← hw3]
  clear hb3 hk3 hw3 hmk
  go_loopw [20] (fun i wr => ∃ k : Nat, k ≤ n ∧ i = .int .i64 k ∧ Hid (wr.heap[w.heap.size]? = some (.cells (lcells b k).toArray 5 (0, 0))) ∧ Hid (Kp All w wr)) (fun i _ => n - (intOf i).toNat)
  case atStart => exact ⟨0, Nat.zero_le _, rfl, HB3, HK3⟩
  case round =>
    obtain ⟨k, hk, rfl, hbk, hkp⟩ := hrel
    by_cases hlt : k < n
    · have hb0 : decide ((k : Int) < (n : Int)) = true := decide_eq_true (by omega)
      have i0 : (0 : Int) ≤ (k : Int) := by omega
      have i1 : (k : Int) < (n : Int) := by omega
      obtain ⟨b1, o1, eA, hr⟩ := (H.out.step hkp.out).now.2.2 (by omega)
      subst eA
      have hc := hr k (.int .u8 (b.getD k 0).toNat) (by rw [u8s, List.getElem?_map, List.getElem?_eq_getElem (by rw [HN.out]; exact hlt), List.getD_eq_getElem?_getD, List.getElem?_eq_getElem (by rw [HN.out]; exact hlt)]; rfl)
      have hff := blk_free hbk.out
      have hcw : wr.cell? ⟨w.heap.size, k + 1, none⟩ = some (.int .u8 0) := by
        rw [blk_cell hbk.out, List.getElem?_toArray, lcells, List.cons_append, List.getElem?_cons_succ, List.append_assoc, List.getElem?_append_right (by simp; omega)]
        rw [u8s_len, List.length_take, HN.out, Nat.min_eq_left hk, Nat.sub_self, List.getElem?_append_left (by simp; omega), List.getElem?_replicate, if_pos (by omega)]
      clear hr
      go_wp2_with fail
      rw [← List.getD_eq_getElem?_getD]
      refine ⟨⟨k + 1, by omega, by go_num, ?_, hid (hkp.out.setNew (Nat.le_refl _) _)⟩, by simp [intOf]; omega⟩
      rw [blk_set hbk.out, List.setIfInBounds_toArray, lcells_set (by rw [HN.out]; exact hlt)]
      exact hid rfl
    · have hb0 : decide ((k : Int) < (n : Int)) = false := decide_eq_false (by omega)
      obtain rfl : k = n := by omega
      go_wp2_with fail
      go_quiet (fail)
      go_wp2_with fail
      go_ret2
      refine ⟨rfl, ?_, hkp.out.drewN _⟩
      rw [HN.out]
      exact hbk.out
theorem lcells_rd {b : By} {g n : Nat} {w : World} {fz : Nat × Nat} (hn : b.length = n) (h : w.heap[g]? = some (.cells (lcells b n).toArray 5 fz)) : w.cell? ⟨g, 0, none⟩ = some (.int .u8 165) ∧ w.cell? ⟨g, n + 1, none⟩ = some (.int .u8 90) ∧ Sl (some ⟨g, 1, none⟩) n (n + 1) 1 (u8s b) w := by
  have e : lcells b n = .int .u8 165 :: (u8s b ++ [.int .u8 90]) := by
    unfold lcells
    rw [← hn, Nat.sub_self, List.take_length]
    simp
  rw [e] at h
  refine ⟨by rw [blk_cell h]; rfl, ?_, by rw [u8s_len]; omega, by omega, fun _ => ⟨g, 1, rfl, fun j u hj => ?_⟩⟩
  · rw [blk_cell h, List.getElem?_toArray, List.getElem?_cons_succ, List.getElem?_append_right (by rw [u8s_len]; omega), u8s_len, hn, Nat.sub_self]; rfl
  · rw [blk_cell h, List.getElem?_toArray, Nat.add_comm 1 j, List.getElem?_cons_succ, List.getElem?_append_left (List.getElem?_eq_some_iff.1 hj).1]
    exact hj
set_option maxRecDepth 100000 in
set_option maxHeartbeats 1000000 in
theorem kept_any (A : Option Addr) (n c g : Nat) (b : By) (hn : b.length = n) (hn9 : n ≤ 100000) (w : World) (h : Sl A n c 1 (u8s b) w) (hg : w.heap[g]? = some (.cells (lcells b n).toArray 5 (0, 0))) :
    Calls Tryz.prog 24 #[.slice (some ⟨g, 0, none⟩) (n + 2) (n + 2), .slice A n c] w fun e w' => e = .returned (.bool true) ∧ Kp All w w' := by
  obtain ⟨c1, c2, h2⟩ := lcells_rd hn hg
  subst hn
  have e1 := fun q => conv_sl (w := w.drewN q) (c := c) h
  have e2 := fun q => conv_sl (w := w.drewN q) (c := b.length + 1) h2
  have hw2 : IntKind.i64.wrap ((b.length : Int) + 2) = (b.length : Int) + 2 := by rw [IntWalk.i64_in _ (by omega)]
  have hw1 : IntKind.i64.wrap ((b.length : Int) + 1) = (b.length : Int) + 1 := by rw [IntWalk.i64_in _ (by omega)]
  obtain ⟨n, hn⟩ : ∃ n, b.length = n := ⟨_, rfl⟩
  simp only [hn] at c2 e1 e2 hw1 hw2 hn9 ⊢
  have i0 : (0 : Int) < (n : Int) + 2 := by omega
  have i1 : (n : Int) + 1 < (n : Int) + 2 := by omega
  have i2 : (0 : Int) ≤ (n : Int) + 1 := by omega
  have i3 : (1 : Int) ≤ (n : Int) + 1 := by omega
  have i4 : (n : Int) + 1 ≤ (n : Int) + 2 := by omega
  clear h h2 hg hn
  go_enter Tryz.func24, Tryz.ntmps24
  go_wp2_with fail
  go_quiet (fail)
  go_wp2_with fail
  go_ret
  exact ⟨rfl, (Kp.refl _ _).drewN _⟩
set_option maxRecDepth 100000 in
theorem same_eq (A B : Option Addr) (n c d : Nat) (xs : By) (hn : xs.length = n) (w : World) (h1 : Sl A n c 1 (u8s xs) w) (h2 : Sl B n d 1 (u8s xs) w) :
    Calls Tryz.prog 18 #[.slice A n c, .slice B n d] w fun e w' => e = .returned (.bool true) ∧ w = w' := by
  subst hn
  have e1 := conv_sl h1
  have e2 := conv_sl h2
  clear h1 h2
  go_enter Tryz.func18, Tryz.ntmps18
  go_wp2
  go_ret
  exact ⟨by simp, rfl⟩
end Go.Proofs.YtodledidabdkaaaGreatDoor

namespace Go.Proofs.YtodledidabdkaaaGreatDoor
open Go.RowKit Go.Shelf Go.Sort V
set_option linter.unusedVariables false
set_option linter.unusedSimpArgs false
/-- What the document's Read answers of bytes that tell l, or tell no pairs. -/
def ReadQ (r : Option (List Slot)) (w : World) (e : Ending) (w' : World) : Prop := match r with
  | none => e = .returned (.tuple #[.slice none 0 0, .int .i64 8]) ∧ Kp All w w'
  | some l => ∃ A c, e = .returned (.tuple #[.slice A l.length c, .int .i64 0]) ∧ Foot All (Sl A l.length c 2 (scs l)) w' ∧ Kp All w w'
set_option maxRecDepth 100000 in
set_option maxHeartbeats 4000000 in
theorem r7read_any (A : Option Addr) (n c : Nat) (xs : By) (hn : xs.length = n) (hxl : n ≤ 9000000000000000000) (w : World) (h : Foot All (Sl A n c 1 (u8s xs)) w) :
    Calls Tryz.prog 59 #[.slice A n c] w (ReadQ (readImg xs) w) := by
  obtain ⟨W1, hW1⟩ : ∃ W1, w.alloc (.cells #[.slice A n c, .bool false] 131) = W1 := ⟨_, rfl⟩
  have k1' : Kp All w W1 := hW1 ▸ Kp.al _ _
  have bq := blk_new w (.cells #[.slice A n c, .bool false] 131)
  rw [hW1] at bq
  have hz1 : W1.heap.size = w.heap.size + 1 := by rw [← hW1]; simp
  have hrg : Rs w.heap.size (xs, false) W1 := by
    refine ⟨_, _, bq, ?_, by dsimp only; omega⟩
    have : Foot (fun k => k < w.heap.size) (Rb (.slice A n c) xs) w := fun u hu => by
      have := (h.mono (T := fun k => k < w.heap.size) (fun k hk _ => hk)) u hu
      exact ⟨A, c, by rw [hn], by rw [hn]; exact this⟩
    exact this.step (k1'.mono fun _ _ _ => trivial)
  obtain ⟨q, hq⟩ : ∃ q, w.heap.size = q := ⟨_, rfl⟩
  have HR := hid hrg; have HK1 := hid k1'; have HZ := hid hz1
  clear bq hrg k1' h
  obtain ⟨m0, hm0⟩ : ∃ m0, (cntX xs false 2000).1 = m0 := ⟨_, rfl⟩
  obtain ⟨s0, hs0⟩ : ∃ s0, (cntX xs false 2000).2 = s0 := ⟨_, rfl⟩
  have hm9 : m0 ≤ 2000 := by rw [← hm0]; exact cX_cnt _ _
  have hs9 : s0.1.length ≤ n := by rw [← hs0, ← hn]; exact cX_le _ _
  have hrd : Hid (readImg xs = finI (imgGo m0 s0 [])) := hid (by rw [readImg, hm0, hs0])
  obtain ⟨RI, hRI⟩ : ∃ RI, readImg xs = RI := ⟨_, rfl⟩
  rw [hRI] at hrd ⊢
  have HM0 := hid hm0; have HS0 := hid hs0
  clear hm0 hs0 hRI
  go_enter Tryz.func59, Tryz.ntmps59
  rw [hq] at HR
  go_wp2_with fail
  refine (qcount_any q xs false 2000 (by omega) _ HR.out).mono ?_
  rw [HM0.out, HS0.out]
  rintro e w2 ⟨rfl, hr2, hk2⟩
  have HR2 := hid (show Rs q s0 w2 from hr2)
  have HK2 := hid hk2
  clear hr2 hk2
  go_wp2_with fail
  go_loopw [6, 7] (fun x i wr => ∃ (m : Nat) (t : Sx) (acc : List Slot), i = .int .i64 acc.length ∧ acc.length + m = m0 ∧ t.1.length ≤ n ∧ Hid (∀ x ∈ acc, x.1.size ≤ 9000000000000000000) ∧ Hid (imgGo m t acc = imgGo m0 s0 []) ∧ Hid (Rs q t wr) ∧ Hid (wr.ownsRow W1.heap.size 35 2 x acc.length (scs acc)) ∧ Hid (Kp (fun k => k ≠ q) W1 wr)) (fun _ i _ => m0 - (ivl i).toNat)
  case atStart => exact ⟨m0, s0, [], rfl, by simp, hs9, hid (fun x hx => by cases hx), hid rfl, HR2, hid (World.ownsRow_nil _ _ _ _), HK2⟩
  case round =>
    obtain ⟨m, t, acc, rfl, hacc, htl, hsz, hit, hrs, hown, hkp⟩ := hrel
    obtain ⟨A3, c3, rfl⟩ := own_shape hown.out
    obtain ⟨al, hal⟩ : ∃ al, acc.length = al := ⟨_, rfl⟩
    have HAL := hid hal
    have ho := hown.out
    rw [hal] at ho hacc ⊢
    have HOW0 := hid ho
    clear hal ho
    match m, hacc, hit with
    | 0, hacc, hit =>
      have d0 : decide ((al : Int) < (m0 : Int)) = false := decide_eq_false (by omega)
      have he := hit.out
      rw [imgGo] at he
      have hri : RI = if endP t = true then some acc else none := by rw [hrd.out, ← he]; rfl
      cases hen : endP t with
      | false =>
        rw [hen, if_neg (by simp)] at hri
        subst hri
        have HE := hid (show (!t.2 && t.1.length == 0) = false from hen)
        clear hen he
        obtain ⟨vq, tyq, hcq, hfq, hlq⟩ := hrs.out
        have cq := blk_cell hcq
        clear hcq hfq hlq
        go_wp2_with fail
        refine (qend_any q t.1 t.2 _ hrs.out).mono ?_
        rw [HE.out]
        rintro e w3 ⟨rfl, hw⟩
        subst hw
        go_wp2_with fail
        refine bodyPost_ret (v := .tuple #[.slice none 0 0, .int .i64 8]) (by simp [results, Tryz.results59, go_sem]) rfl ⟨rfl, ?_⟩
        exact HK1.out.then hkp.out (fun i hi _ => by omega)
      | true =>
        rw [hen, if_pos rfl] at hri
        subst hri
        have HE := hid (show (!t.2 && t.1.length == 0) = true from hen)
        clear hen he
        have hKw : Kp All w wr := HK1.out.then hkp.out (fun i hi _ => by omega)
        obtain ⟨vq, tyq, hcq, hfq, hlq⟩ := hrs.out
        have cq := blk_cell hcq
        have HKw := hid hKw
        have HFT := hid (own_foot2 HOW0.out)
        clear hKw hcq hfq hlq
        go_wp2_with fail
        refine (qend_any q t.1 t.2 _ hrs.out).mono ?_
        rw [HE.out]
        rintro e w3 ⟨rfl, hw⟩
        have hw := hw.symm
        subst hw
        go_wp2_with fail
        refine bodyPost_ret (v := .tuple #[.slice A3 al c3, .int .i64 0]) (by simp [results, Tryz.results59, go_sem]) rfl ⟨A3, c3, by rw [HAL.out], by rw [HAL.out]; exact HFT.out, HKw.out⟩
    | m + 1, hacc, hit =>
      have d0 : decide ((al : Int) < (m0 : Int)) = true := decide_eq_true (by omega)
      have hal1 : IntKind.i64.wrap ((al : Int) + 1) = (al : Int) + 1 := IntWalk.i64_in _ (by omega)
      obtain ⟨ys, b⟩ := t
      obtain ⟨vq, tyq, hcq, hfq, hlq⟩ := hrs.out
      have cq := blk_cell hcq
      clear hcq hfq hlq
      cases b with
      | true =>
        have he := hit.out
        rw [imgGo, if_pos rfl] at he
        have hn : RI = none := by rw [hrd.out, ← he]; rfl
        subst hn
        go_wp2_with fail
        refine (qend_any q ys true _ hrs.out).mono ?_
        rintro e w3 ⟨rfl, hw⟩
        subst hw
        go_wp2_with fail
        refine bodyPost_ret (v := .tuple #[.slice none 0 0, .int .i64 8]) (by simp [results, Tryz.results59, go_sem]) rfl ⟨rfl, ?_⟩
        exact HK1.out.then hkp.out (fun i hi _ => by omega)
      | false =>
        have he := hit.out
        rw [imgGo, if_neg (by simp)] at he
        have HIT := hid he
        clear he hit
        have hkz := tV_size (ys, false)
        have hl1 := tX_le (ys, false)
        have hl2 := tX_le (tX (ys, false))
        dsimp only at hkz hl1 htl
        go_wp2_with fail
        refine (qtext_s q (ys, false) _ hrs.out).mono ?_
        rintro e w3 ⟨rfl, hr3, hk3⟩
        obtain ⟨kx, hkx⟩ : ∃ kx, tV (ys, false) = kx := ⟨_, rfl⟩
        obtain ⟨s1, hs1⟩ : ∃ s1, tX (ys, false) = s1 := ⟨_, rfl⟩
        simp only [hkx, hs1] at HIT hkz hl1 hl2 hr3 ⊢
        have HR3 := hid hr3; have HK3 := hid hk3
        clear hr3 hk3 hkx hs1 cq
        go_wp2_with fail
        obtain ⟨w4, hw4⟩ : ∃ w4, w3.alloc (.cells #[.string kx, .string ⟨#[]⟩] 35) = w4 := ⟨_, rfl⟩
        have b4 := blk_new w3 (.cells #[.string kx, .string ⟨#[]⟩] 35)
        have k4 : Kp All w3 w4 := hw4 ▸ Kp.al _ _
        rw [hw4] at b4 ⊢
        have hqw : q < wr.heap.size := by have := hkp.out.size; omega
        have hq3 : q < w3.heap.size := Nat.lt_of_lt_of_le hqw HK3.out.size
        have HB4 := hid b4; have HK4 := hid k4
        clear b4 k4 hw4
        refine (qtext_s q s1 _ (HR3.out.all HK4.out)).mono ?_
        rintro e w5 ⟨rfl, hr5, hk5⟩
        obtain ⟨vx, hvx⟩ : ∃ vx, tV s1 = vx := ⟨_, rfl⟩
        obtain ⟨s2, hs2⟩ : ∃ s2, tX s1 = s2 := ⟨_, rfl⟩
        simp only [hvx, hs2] at HIT hl2 hr5 ⊢
        have b5 := hk5.heap HB4.out (show w3.heap.size ≠ q by omega)
        have c5 := blk_cell b5
        have f5 := blk_free b5
        have K5 : Hid (Kp (fun k => k ≠ q) wr w5) := hid ((HK3.out.trans HK4.out.all).trans hk5)
        have HR5 := hid hr5; have HB5 := hid b5
        clear hr5 hk5 hvx hs2 b5
        go_wp2_with fail
        obtain ⟨U, hU⟩ : ∃ U, w5.setCell ⟨w3.heap.size, 1, none⟩ (.string vx) = U := ⟨_, rfl⟩
        rw [hU]
        have hown5 := own_kept HOW0.out K5.out (fun b hb e => by have := (HOW0.out.lt b hb).1; omega)
        have hlt5 : ∀ b, (Value.slice A3 al c3).ownBlock = some b → b < wr.heap.size := fun b hb => (HOW0.out.lt b hb).2
        have h35 : wr.heap.size ≤ w3.heap.size := HK3.out.size
        have KU : Kp (fun k => k ≠ w3.heap.size) w5 U := hU ▸ (Kp.refl _ w5).setOut (by simp) _
        have HOU : Hid (U.ownsRow W1.heap.size 35 2 (.slice A3 al c3) al (scs acc)) := hid (own_kept hown5 KU (fun b hb => by have := hlt5 b hb; omega))
        have HRU : Hid (Rs q s2 U) := hid (HR5.out.kept KU (fun i hi => by omega))
        have HKU : Hid (Kp (fun k => k ≠ q) W1 U) := hid (by rw [← hU]; exact (hkp.out.trans K5.out).setNew (by have := hkp.out.size; omega) _)
        have cU := blk_cell (show U.heap[w3.heap.size]? = some (.cells #[.string kx, .string vx] 35 (0, 0)) from by rw [← hU]; exact blk_set HB5.out 1 _)
        clear hown5 hlt5 KU hU c5 f5
        by_cases hl : lastK acc kx = true
        · rw [if_pos hl] at HIT
          have hri : RI = none := by rw [hrd.out, ← HIT.out]; rfl
          subst hri
          obtain ⟨p, hp, hcmp⟩ : ∃ p, acc.getLast? = some p ∧ ¬ bl p.1 < bl kx := by
            unfold lastK at hl
            cases hp : acc.getLast? with
            | none => rw [hp] at hl; cases hl
            | some p =>
              rw [hp] at hl
              exact ⟨p, rfl, fun h => by simp [h] at hl⟩
          have hpos : 0 < al := by
            rw [← HAL.out]
            exact List.length_pos_of_mem (List.mem_of_getLast? hp)
          have d1 : decide ((0 : Int) < (al : Int)) = true := decide_eq_true (by omega)
          obtain ⟨a, ha⟩ : ∃ a, a + 1 = al := ⟨al - 1, by omega⟩
          have hp2 : acc[a]? = some p := by
            rw [List.getLast?_eq_getElem?, HAL.out, ← ha] at hp
            simpa using hp
          have hFU := (own_foot2 HOU.out).now.2.2 (by omega)
          obtain ⟨g3, o3, rfl, hr3⟩ := hFU
          obtain ⟨px, pv⟩ := p
          obtain ⟨g1, _⟩ := scs_get hp2
          have p1 := hr3 _ _ g1
          dsimp only at p1 hcmp
          have hsub : IntKind.i64.wrap ((al : Int) - 1) = (a : Int) := by rw [show (al : Int) - 1 = (a : Int) from by omega]; exact IntWalk.i64_in _ (by omega)
          have a0 : (0 : Int) ≤ (a : Int) := by omega
          have a1 : (a : Int) < (al : Int) := by omega
          have hb3 := World.block_lt_of_cell? _ _ p1
          have hcm : Op.bytesLess px.toList kx.toList = false := by rw [lss_tx]; exact decide_eq_false hcmp
          clear hp hp2 g1 hr3 hl
          go_quiet (fail)
          go_wp2_with fail
          refine bodyPost_ret (v := .tuple #[.slice none 0 0, .int .i64 8]) (by simp [results, Tryz.results59, go_sem]) rfl ⟨rfl, ?_⟩
          exact HK1.out.then (HKU.out.drewN _) (fun i hi _ => by omega)
        · rw [if_neg hl] at HIT
          have HIT2 := hid HIT.out
          rcases Nat.eq_zero_or_pos al with hal0 | hal0
          · have d1 : decide ((0 : Int) < (al : Int)) = false := decide_eq_false (by omega)
            go_quiet (fail)
            rename_i nq

            go_wp2_with (at_builtin; go_loud (refine wpList_app elP (World.ownsRow.alloc (own_kept HOU.out ((Kp.refl All U).drewN nq) (fun _ _ => trivial)) _) (sl_new2 rfl (kx, vx) _) (two_one (kx, vx)) ?_ ?_ rfl _ _ rfl rfl rfl ?_); omega; (have := HKU.out.size; simp; omega); intro v' w7 hown7 hg7 hob7 hnil7; obtain ⟨A7, c7, rfl⟩ := own_shape hown7; have HOW7 := hid hown7; have HG7 := hid hg7; clear hown7 hg7 hob7 hnil7)
            have kU7 : Kp (fun i => i ≤ q) U w7 := (((Kp.refl _ U).drewN nq).alloc _).then (Kp.grown HG7.out) (fun i hi hle e => by
              have := (HOU.out.lt i e.symm).1
              omega)
            have k7 : Kp (fun i => i ≠ q) W1 w7 := ((HKU.out.drewN nq).alloc _).then (Kp.grown HG7.out) (fun i hi _ e => by
              have := (HOU.out.lt i e.symm).1
              omega)
            refine ⟨⟨m, s2, acc ++ [(kx, vx)], by rw [List.length_append, HAL.out, List.length_singleton]; first | rfl | (rw [hal0]; rfl), by rw [List.length_append, HAL.out, List.length_singleton]; omega, by omega, hid (fun x hx => ?_), HIT2, hid (HRU.out.kept kU7 (fun i hi => hi)), ?_, k7⟩, by simp [ivl]; omega⟩
            · rcases List.mem_append.1 hx with hx | hx
              · exact hsz.out x hx
              · rw [List.mem_singleton] at hx; subst hx; dsimp only; omega
            · refine hid ?_
              have h := HOW7.out
              rw [List.length_append, HAL.out, show scs (acc ++ [(kx, vx)]) = scs acc ++ [.string kx, .string vx] from by simp [scs]]
              first | exact h | (rw [hal0] at h ⊢; exact h)
          · have d1 : decide ((0 : Int) < (al : Int)) = true := decide_eq_true (by omega)
            obtain ⟨p, hp, hcmp⟩ : ∃ p, acc.getLast? = some p ∧ bl p.1 < bl kx := by
              unfold lastK at hl
              cases hp : acc.getLast? with
              | none =>
                rw [List.getLast?_eq_none_iff] at hp
                rw [hp] at HAL
                have := HAL.out
                simp at this
                omega
              | some p =>
                rw [hp] at hl
                exact ⟨p, rfl, Classical.byContradiction fun h => hl (by simp [h])⟩
            obtain ⟨a, ha⟩ : ∃ a, a + 1 = al := ⟨al - 1, by omega⟩
            have hp2 : acc[a]? = some p := by
              rw [List.getLast?_eq_getElem?, HAL.out, ← ha] at hp
              simpa using hp
            have hFU := (own_foot2 HOU.out).now.2.2 (by omega)
            obtain ⟨g3, o3, rfl, hr3⟩ := hFU
            obtain ⟨px, pv⟩ := p
            obtain ⟨g1, _⟩ := scs_get hp2
            have p1 := hr3 _ _ g1
            dsimp only at p1 hcmp
            have hsub : IntKind.i64.wrap ((al : Int) - 1) = (a : Int) := by rw [show (al : Int) - 1 = (a : Int) from by omega]; exact IntWalk.i64_in _ (by omega)
            have a0 : (0 : Int) ≤ (a : Int) := by omega
            have a1 : (a : Int) < (al : Int) := by omega
            have hb3 := World.block_lt_of_cell? _ _ p1
            have hcm : Op.bytesLess px.toList kx.toList = true := by rw [lss_tx]; exact decide_eq_true hcmp
            clear hp hp2 g1 hr3 hl
            go_quiet (fail)
            rename_i nq

            go_wp2_with (at_builtin; go_loud (refine wpList_app elP (World.ownsRow.alloc (own_kept HOU.out ((Kp.refl All U).drewN nq) (fun _ _ => trivial)) _) (sl_new2 rfl (kx, vx) _) (two_one (kx, vx)) ?_ ?_ rfl _ _ rfl rfl rfl ?_); omega; (have := HKU.out.size; simp; omega); intro v' w7 hown7 hg7 hob7 hnil7; obtain ⟨A7, c7, rfl⟩ := own_shape hown7; have HOW7 := hid hown7; have HG7 := hid hg7; clear hown7 hg7 hob7 hnil7)
            have kU7 : Kp (fun i => i ≤ q) U w7 := (((Kp.refl _ U).drewN nq).alloc _).then (Kp.grown HG7.out) (fun i hi hle e => by
              have := (HOU.out.lt i e.symm).1
              omega)
            have k7 : Kp (fun i => i ≠ q) W1 w7 := ((HKU.out.drewN nq).alloc _).then (Kp.grown HG7.out) (fun i hi _ e => by
              have := (HOU.out.lt i e.symm).1
              omega)
            refine ⟨⟨m, s2, acc ++ [(kx, vx)], by rw [List.length_append, HAL.out, List.length_singleton]; first | rfl | (rw [hal0]; rfl), by rw [List.length_append, HAL.out, List.length_singleton]; omega, by omega, hid (fun x hx => ?_), HIT2, hid (HRU.out.kept kU7 (fun i hi => hi)), ?_, k7⟩, by simp [ivl]; omega⟩
            · rcases List.mem_append.1 hx with hx | hx
              · exact hsz.out x hx
              · rw [List.mem_singleton] at hx; subst hx; dsimp only; omega
            · refine hid ?_
              have h := HOW7.out
              rw [List.length_append, HAL.out, show scs (acc ++ [(kx, vx)]) = scs acc ++ [.string kx, .string vx] from by simp [scs]]
              first | exact h | (rw [hal0] at h ⊢; exact h)
end Go.Proofs.YtodledidabdkaaaGreatDoor

namespace Go.Proofs.YtodledidabdkaaaGreatDoor
open Go.RowKit Go.Shelf Go.Sort V
set_option linter.unusedVariables false
set_option linter.unusedSimpArgs false
theorem imgGo_good {N B : Nat} : ∀ (m : Nat) (t : Sx) (acc : List Slot) {l : List Slot} {t' : Sx}, imgGo m t acc = some (l, t') → acc.length + m ≤ N → t.1.length ≤ B → (∀ x ∈ acc, x.1.size ≤ B) → l.length ≤ N ∧ ∀ x ∈ l, x.1.size ≤ B
  | 0, t, acc, l, t', h, h1, _, h3 => by
    rw [imgGo] at h
    injection h with h
    injection h with h _
    subst h
    exact ⟨by omega, h3⟩
  | m + 1, t, acc, l, t', h, h1, h2, h3 => by
    rw [imgGo] at h
    split at h
    · injection h with h
      injection h with h _
      subst h
      exact ⟨by omega, h3⟩
    · split at h
      · cases h
      · have a1 := tV_size t
        have a2 := tX_le t
        have a3 := tX_le (tX t)
        refine imgGo_good m (tX (tX t)) (acc ++ [(tV t, tV (tX t))]) h (by rw [List.length_append, List.length_singleton]; omega) (by omega) fun x hx => ?_
        rcases List.mem_append.1 hx with hx | hx
        · exact h3 x hx
        · rw [List.mem_singleton] at hx
          subst hx
          dsimp only
          omega
theorem readImg_good {xs : By} {l : List Slot} (h : readImg xs = some l) : l.length ≤ 2000 ∧ ∀ x ∈ l, x.1.size ≤ xs.length := by
  unfold readImg finI at h
  split at h
  · cases h
  · rename_i l' s' he
    split at h
    · injection h with h
      subst h
      exact imgGo_good (N := 2000) (B := xs.length) _ _ _ he (by have := cX_cnt xs 2000; simpa using this) (cX_le _ _) (fun x hx => by cases hx)
    · cases h
/-- What the document's Import answers. -/
def ImpQ (k0 k1 : Nat) (r : Option (List Slot)) (w : World) (e : Ending) (w' : World) : Prop := match r with
  | none => e = .returned (.tuple #[.pointer none, .int .i64 8]) ∧ Kp All w w'
  | some l => ∃ bq k O, k ≤ 10 ∧ l.length ≤ 7 * 2 ^ k ∧ (∀ j, j < k → 7 * 2 ^ j < l.length) ∧ e = .returned (.tuple #[.pointer (some ⟨bq, 0, none⟩), .int .i64 0]) ∧ Ql k0 k1 bq (putsP (sipP k0 k1) (madeP (2 ^ k)) l) O w' ∧ Kp All w w'
/-- a map of the document's made since w -/
def Qm (k0 k1 : Nat) (w : World) (bm : Nat) (M : Mp) (W : World) : Prop := ∃ O, Ql k0 k1 bm M O W ∧ (∀ b, O b → w.heap.size ≤ b) ∧ Kp All w W
theorem Qm.kept {k0 k1 bm : Nat} {M : Mp} {w W W' : World} (h : Qm k0 k1 w bm M W) (k : Kp All W W') : Qm k0 k1 w bm M W' := by
  obtain ⟨O, h1, h2, h3⟩ := h
  exact ⟨O, h1.kept k (fun _ _ => trivial), h2, h3.trans k⟩
theorem Qm.old {k0 k1 bm : Nat} {M : Mp} {w W : World} (h : Qm k0 k1 w bm M W) : Kp All w W := by
  obtain ⟨O, h1, h2, h3⟩ := h
  exact h3
theorem qm_put {k0 k1 bm : Nat} {M : Mp} {w W : World} (key v : Tx) (hkey : key.size ≤ 9000000000000000000) (h : Qm k0 k1 w bm M W) : Calls Tryz.prog 10 #[.pointer (some ⟨bm, 0, none⟩), .string key, .string v] W fun e w' => e = .returned (.tuple #[.bool (putP (sipP k0 k1) M key v).2.1, .int .i64 ((putP (sipP k0 k1) M key v).2.2 : Nat)]) ∧ Qm k0 k1 w bm (putP (sipP k0 k1) M key v).1 w' := by
  obtain ⟨O, h1, h2, h3⟩ := h
  refine (r5put_any k0 k1 bm M O key v hkey W h1).mono ?_
  rintro e w' ⟨rfl, O', h4, h5, h6⟩
  have := h3.size
  refine ⟨rfl, O', h4, fun b hb => ?_, h3.then h6 fun b hb _ e => absurd (h2 b e) (by omega)⟩
  rcases Nat.lt_or_ge b W.heap.size with hl | hl
  · exact h2 b (h5 b hl hb)
  · omega
set_option maxRecDepth 100000 in
set_option maxHeartbeats 2000000 in
theorem r7import_any (k0 k1 : Nat) (h0 : k0 < 18446744073709551616) (h1 : k1 < 18446744073709551616) (A : Option Addr) (n c : Nat) (xs : By) (hn : xs.length = n) (hxl : n ≤ 9000000000000000000) (w : World) (h : Foot All (Sl A n c 1 (u8s xs)) w) :
    Calls Tryz.prog 23 #[.slice A n c, .int .u64 k0, .int .u64 k1] w (ImpQ k0 k1 (readImg xs) w) := by
  have HR := hid (r7read_any A n c xs hn hxl w h)
  have H01 := hid (And.intro h0 h1)
  clear h
  cases hr : readImg xs with
  | none =>
    rw [hr] at HR
    clear hr
    go_enter Tryz.func23, Tryz.ntmps23
    go_wp2_with fail
    refine HR.out.mono ?_
    rintro e w2 ⟨rfl, hk⟩
    have HK := hid hk
    clear hk
    go_wp2_with fail
    refine bodyPost_ret (v := .tuple #[.pointer none, .int .i64 8]) (by simp [results, Tryz.results23, go_sem]) rfl ⟨rfl, HK.out⟩
  | some l =>
    obtain ⟨hll, hsz⟩ := readImg_good hr
    rw [hr] at HR
    rw [hn] at hsz
    have HSZ := hid hsz
    obtain ⟨al, hal⟩ : ∃ al, l.length = al := ⟨_, rfl⟩
    have HAL := hid hal
    rw [hal] at hll
    clear hr hsz hal
    go_enter Tryz.func23, Tryz.ntmps23
    go_wp2_with fail
    refine HR.out.mono ?_
    rintro e w2 ⟨A2, c2, rfl, hf2, hk2⟩
    rw [HAL.out] at hf2 ⊢
    have HF := hid hf2; have HK2 := hid hk2
    clear hf2 hk2
    go_wp2_with fail
    refine (r5new_any k0 k1 al (by omega) w2).mono ?_
    rintro e w3 ⟨kk, hkk, h7, hj, bm, bw, cw, bs, cs, rfl, b1, b2, b3, hm, hk3⟩
    have HKK := hid (And.intro hkk (And.intro h7 hj))
    obtain ⟨i0, _, _, _, n0⟩ := made_inv (sipP k0 k1) hkk
    have HQ0 : Hid (Qm k0 k1 w2 bm (madeP (2 ^ kk)) w3) := hid (by
      refine ⟨fun b => b = bm ∨ b = bw ∨ b = bs, ⟨⟨bw, cw, bs, cs, hm, fun b => Iff.rfl⟩, i0, H01.out.1, H01.out.2, fun k v h => absurd h (n0 k v)⟩, ?_, hk3⟩
      rintro b (rfl | rfl | rfl) <;> omega)
    clear hkk h7 hj b1 b2 b3 hm hk3 i0 n0
    go_wp2_with fail
    go_loopw [28] (fun i wp => ∃ k : Nat, k ≤ al ∧ i = .int .i64 k ∧ Hid (Qm k0 k1 w2 bm (putsP (sipP k0 k1) (madeP (2 ^ kk)) (l.take k)) wp)) (fun i _ => al - (ivl i).toNat)
    case atStart => exact ⟨0, Nat.zero_le _, rfl, HQ0⟩
    case round =>
      obtain ⟨k, hk, rfl, hT⟩ := hrel
      by_cases hlt : k < al
      · have hb0 : decide ((k : Int) < (al : Int)) = true := decide_eq_true (by omega)
        obtain ⟨x, hx⟩ : ∃ x, l[k]? = some x := ⟨_, List.getElem?_eq_getElem (by rw [HAL.out]; exact hlt)⟩
        obtain ⟨x1, x2⟩ := x
        obtain ⟨b, o, rfl, hr⟩ := (HF.out _ hT.out.old).2.2 (by omega)
        obtain ⟨g1, g2⟩ := scs_get hx
        have p1 := hr _ _ g1
        have p2 := hr _ _ g2
        rw [← Nat.add_assoc] at p2
        dsimp only at p1 p2
        have hb1 := World.block_lt_of_cell? _ _ p1
        have i0 : (0 : Int) ≤ (k : Int) := by omega
        have i1 : (k : Int) < (al : Int) := by omega
        have hkz := HSZ.out (x1, x2) (List.mem_of_getElem? hx)
        dsimp only at hkz
        have HX := hid hx
        clear hx hr g1 g2
        go_wp2_with fail
        refine (qm_put x1 x2 (by omega) (hT.out.kept (Kp.al _ _))).mono ?_
        rintro e w5 ⟨rfl, hm5⟩
        rw [← puts_take HX.out] at hm5
        have HM5 := hid hm5
        clear hm5
        go_wp2_with fail
        exact ⟨⟨k + 1, by omega, by go_num, HM5⟩, by simp [ivl]; omega⟩
      · have hb0 : decide ((k : Int) < (al : Int)) = false := decide_eq_false (by omega)
        have hT2 := hT.out
        rw [List.take_of_length_le (by rw [HAL.out]; omega)] at hT2
        have HT := hid hT2
        clear hT2
        go_wp2_with fail
        obtain ⟨O, g1, g2, g3⟩ := HT.out
        refine bodyPost_ret (v := .tuple #[.pointer (some ⟨bm, 0, none⟩), .int .i64 0]) (by simp [results, Tryz.results23, go_sem]) rfl ⟨bm, kk, O, HKK.out.1, by rw [HAL.out]; exact HKK.out.2.1, by rw [HAL.out]; exact HKK.out.2.2, rfl, g1, HK2.out.trans g3⟩
theorem mctrl_any (k0 k1 bm : Nat) (M : Mp) (O : Nat → Prop) (w : World) (h : Lm k0 k1 bm M O w) : Calls Tryz.prog 26 #[.pointer (some ⟨bm, 0, none⟩)] w fun e w' => ∃ A c, e = .returned (.slice A M.g c) ∧ Foot All (Sl A M.g c 1 (wcs M.ctrl)) w' ∧ Kp All w w' := by
  obtain ⟨bw, cw, bs, cs, hm, hO⟩ := h.ms
  have hP := h.inv.pm
  have hg := hP.g1
  have HM := hid (mmade_yes hg.1 w hm)
  have hc0 := blk_cell hm.str
  have HW := hid (clonew_any bw M.g cw (wcs M.ctrl) (by omega) (by rw [wcs_len, hP.len]; omega) (fun u hu => by
    unfold wcs at hu
    obtain ⟨q, _, rfl⟩ := List.mem_map.1 hu
    rfl) w (fun j u hj => by
      obtain ⟨c1, e1, e2, e3⟩ := hm.wds
      rw [← e3, List.getElem?_take] at hj
      split at hj
      · rw [blk_cell e1, ← Array.getElem?_toList]; exact hj
      · cases hj))
  clear h hm
  go_enter Tryz.func26, Tryz.ntmps26
  go_wp2_with fail
  refine HM.out.mono ?_
  rintro e w1 ⟨rfl, hw⟩
  have hw := hw.symm
  subst hw
  go_wp2_with fail
  refine HW.out.mono ?_
  rintro e w2 ⟨g, cap, rfl, hr, hb⟩
  have HR := hid hr; have HB := hid hb
  clear hr hb
  go_wp2_with fail
  go_ret
  exact ⟨_, cap, rfl, own_footz HR.out, Kp.of_below HB.out (Nat.le_refl _)⟩
set_option maxRecDepth 100000 in
theorem r1words_any (A A' : Option Addr) (n c c' : Nat) (C : List Nat) (hn : C.length / 8 = n) (hl : n ≤ 9000000000000000000) (w : World) (h : Foot All (Sl A n c 1 (wcs C)) w) (h' : Foot All (Sl A' n c' 1 (wcs C)) w) :
    Calls Tryz.prog 25 #[.slice A n c, .slice A' n c'] w fun e w' => e = .returned (.bool true) ∧ Kp All w w' := by
  have H := hid h; have H' := hid h'; have HN := hid hn
  have bne : (!((n : Int) == (n : Int))) = false := by simp
  clear h h' hn
  go_enter Tryz.func25, Tryz.ntmps25
  go_wp2_with fail
  go_loopw [13] (fun i wr => ∃ k : Nat, k ≤ n ∧ i = .int .i64 k ∧ Hid (Kp All w wr)) (fun i _ => n - (ivl i).toNat)
  case atStart => exact ⟨0, Nat.zero_le _, rfl, Kp.refl _ _⟩
  case round =>
    obtain ⟨k, hk, rfl, hkp⟩ := hrel
    by_cases hlt : k < n
    · have hb0 : decide ((k : Int) < (n : Int)) = true := decide_eq_true (by omega)
      have hg := wcs_get (c := C) (q := k) (by rw [HN.out]; exact hlt)
      obtain ⟨b, o, rfl, hr⟩ := (H.out wr hkp.out).2.2 (by omega)
      obtain ⟨b', o', rfl, hr'⟩ := (H'.out wr hkp.out).2.2 (by omega)
      have p1 := hr _ _ hg
      have p2 := hr' _ _ hg
      generalize wd (grp C k) = z at *
      have hb1 := World.block_lt_of_cell? _ _ p1
      have hb2 := World.block_lt_of_cell? _ _ p2
      have i0 : (0 : Int) ≤ (k : Int) := by omega
      have i1 : (k : Int) < (n : Int) := by omega
      have dz : ((z : Int) == (z : Int)) = true := by simp
      clear hg hr hr'
      go_wp2_with fail
      go_quiet (fail)
      go_wp2_with fail
      exact ⟨⟨k + 1, by omega, by go_num, hid (hkp.out.drewN _)⟩, by simp [ivl]; omega⟩
    · have hb0 : decide ((k : Int) < (n : Int)) = false := decide_eq_false (by omega)
      go_wp2_with fail
      go_ret
      exact ⟨rfl, hkp.out⟩
end Go.Proofs.YtodledidabdkaaaGreatDoor

namespace Go.Proofs.YtodledidabdkaaaGreatDoor
open Go.RowKit Go.Shelf Go.Sort V
set_option linter.unusedVariables false
set_option linter.unusedSimpArgs false
theorem if_no {c : Bool} {p q : Prop} (hc : c = false) (h : q) : if c = true then p else q := by
  subst hc
  simpa using h
theorem qs_words {k0 k1 bm bw cw bs cs : Nat} {M : Mp} {W : World} (hP : Pm M) (h : Qs k0 k1 bm bw cw bs cs M W) : Foot All (Sl (some ⟨bw, 0, none⟩) M.g cw 1 (wcs M.ctrl)) W := by
  intro u hu
  have hm := h.all hu
  refine ⟨by rw [wcs_len, hP.len]; omega, hm.cwl, fun _ => ⟨bw, 0, rfl, fun j v hj => ?_⟩⟩
  obtain ⟨c1, e1, e2, e3⟩ := hm.wds
  rw [← e3, List.getElem?_take] at hj
  split at hj
  · rw [Nat.zero_add, blk_cell e1, ← Array.getElem?_toList]; exact hj
  · cases hj
set_option maxRecDepth 100000 in
set_option maxHeartbeats 8000000 in
theorem imageImports_any (k0 k1 : Nat) (h0 : k0 < 18446744073709551616) (h1 : k1 < 18446744073709551616) (A : Option Addr) (n c : Nat) (b : By) (hn : b.length = n) (w : World) (hgs : Gs w) (h : Foot All (Sl A n c 1 (u8s b)) w) :
    Calls Tryz.prog 4 #[.slice A n c, .agg #[.int .u64 k0, .int .u64 k1]] w fun e w' => e = .returned (.bool true) ∧ Kp All w w' := by
  obtain ⟨W1, hW1⟩ : ∃ W1, w.alloc (.cells #[.int .u64 k0, .int .u64 k1] 24) = W1 := ⟨_, rfl⟩
  have k1' : Kp All w W1 := hW1 ▸ Kp.al _ _
  have ba := blk_new w (.cells #[.int .u64 k0, .int .u64 k1] 24)
  rw [hW1] at ba
  have ca := blk_cell ba
  have BA := hid ba; have H := hid (h.step k1'); have K1 := hid k1'; have HG := hid (hgs.kept k1' trivial); have HN := hid hn; have H01 := hid (And.intro h0 h1)
  have HLV := hid (fun W (k : Kp All W1 W) => lives07_any W (HG.out.kept k trivial))
  clear ba k1' h hn hgs
  by_cases h10 : 10000 < n
  · have d0 : decide ((10000 : Int) < (n : Int)) = true := decide_eq_true (by omega)
    go_enter Tryz.func4, Tryz.ntmps4
    go_wp2_with fail
    refine (HLV.out _ (Kp.refl _ _)).mono ?_
    rintro e w2 ⟨rfl, hk⟩
    have HK := hid hk
    clear hk
    go_wp2_with fail
    go_ret
    exact ⟨rfl, K1.out.trans HK.out⟩
  · have d0 : decide ((10000 : Int) < (n : Int)) = false := decide_eq_false (by omega)
    go_enter Tryz.func4, Tryz.ntmps4
    go_wp2_with fail
    refine (lend_any A n c b HN.out (by omega) W1 H.out).mono ?_
    rintro e w2 ⟨rfl, hb2, hk2⟩
    rw [HN.out] at hb2
    obtain ⟨g, hg⟩ : ∃ g, W1.heap.size = g := ⟨_, rfl⟩
    rw [hg] at hb2 ⊢
    have HB2 := hid hb2; have HK2 := hid hk2
    have HF2 : Hid (Foot All (Sl (some ⟨g, 1, none⟩) n (n + 1) 1 (u8s b)) w2) := hid (fun u hu => (lcells_rd HN.out (hu.heap hb2 trivial)).2.2)
    have ct := blk_cell (hk2.heap BA.out trivial)
    clear hb2 hk2 hg ca
    have HI := hid (iimport2_any k0 k1 H01.out.1 H01.out.2 (some ⟨g, 1, none⟩) n (n + 1) b HN.out (by omega) w2 (HG.out.kept HK2.out trivial) HF2.out)
    have HJ := hid (fun W (k : Kp All W1 W) => r7import_any k0 k1 H01.out.1 H01.out.2 A n c b HN.out (by omega) W (H.out.step k))
    have HKP := hid (fun W (k : Kp All w2 W) => kept_any A n c g b HN.out (by omega) W (H.out.step (HK2.out.trans k)).now (k.heap HB2.out trivial))
    cases hr : readImg b with
    | none =>
      rw [hr] at HI HJ
      clear hr
      go_wp2_with fail
      refine HI.out.mono ?_
      rintro e w3 ⟨rfl, hk3⟩
      have ct3 := blk_cell ((HK2.out.trans hk3).heap BA.out trivial)
      have HK3 := hid hk3
      clear hk3 ct
      go_wp2_with fail
      refine (HJ.out w3 (HK2.out.trans HK3.out)).mono ?_
      rintro e w4 ⟨rfl, hk4⟩
      have HK4 := hid (HK3.out.trans hk4)
      clear hk4 ct3
      go_wp2_with fail
      refine (HKP.out w4 HK4.out).mono ?_
      rintro e w5 ⟨rfl, hk5⟩
      have HK5 := hid (HK2.out.trans (HK4.out.trans hk5))
      clear hk5
      go_wp2_with fail
      refine wp_region_held_drew (S := fun _ => True) (by kernel_rfl) trivial (fun _ => ?_)
      (refine wpAnyH_take (i := 0) (oi := _) (v := ?_) (by (simp only [List.getElem?_toArray, List.getElem?_cons_succ, List.getElem?_cons_zero]); rfl) (by kernel_rfl) (by kernel_rfl) (by kernel_rfl) (by exact fun _ _ _ h => h) (Or.inl ⟨by rfl, ?_⟩) trivial ?_; rotate_left; focus ((intro w hSw; go_simp) <;> with_reducible rfl); (try simp only [Act.put, List.getElem_toArray, List.getElem_cons_succ, List.getElem_cons_zero, List.setIfInBounds_toArray, List.set_cons_zero, List.set_cons_succ]))
      (refine wpAnyH_take (i := 1) (oi := _) (v := ?_) (by (simp only [List.getElem?_toArray, List.getElem?_cons_succ, List.getElem?_cons_zero]); rfl) (by kernel_rfl) (by kernel_rfl) (by kernel_rfl) (by exact fun _ _ _ h => h) (Or.inl ⟨by rfl, ?_⟩) trivial ?_; rotate_left; focus ((intro w hSw; go_simp) <;> with_reducible rfl); (try simp only [Act.put, List.getElem_toArray, List.getElem_cons_succ, List.getElem_cons_zero, List.setIfInBounds_toArray, List.set_cons_zero, List.set_cons_succ]))
      (refine wpAnyH_take (i := 2) (oi := _) (v := ?_) (by (simp only [List.getElem?_toArray, List.getElem?_cons_succ, List.getElem?_cons_zero]); rfl) (by kernel_rfl) (by kernel_rfl) (by kernel_rfl) (by exact fun _ _ _ h => h) (Or.inl ⟨by rfl, ?_⟩) trivial ?_; rotate_left; focus ((intro w hSw; go_simp) <;> with_reducible rfl); (try simp only [Act.put, List.getElem_toArray, List.getElem_cons_succ, List.getElem_cons_zero, List.setIfInBounds_toArray, List.set_cons_zero, List.set_cons_succ]))
      (refine wpAnyH_take (i := 3) (oi := _) (v := undef) (by (simp only [List.getElem?_toArray, List.getElem?_cons_succ, List.getElem?_cons_zero]); rfl) (by kernel_rfl) (by kernel_rfl) (by kernel_rfl) (by exact fun _ _ _ h => h) (Or.inr ⟨by rfl, rfl⟩) trivial ?_; (try simp only [Act.put, List.getElem_toArray, List.getElem_cons_succ, List.getElem_cons_zero, List.setIfInBounds_toArray, List.set_cons_zero, List.set_cons_succ]))
      (refine wpAnyH_take (i := 5) (oi := _) (v := undef) (by (simp only [List.getElem?_toArray, List.getElem?_cons_succ, List.getElem?_cons_zero]); rfl) (by kernel_rfl) (by kernel_rfl) (by kernel_rfl) (by exact fun _ _ _ h => h) (Or.inr ⟨by rfl, rfl⟩) trivial ?_; (try simp only [Act.put, List.getElem_toArray, List.getElem_cons_succ, List.getElem_cons_zero, List.setIfInBounds_toArray, List.set_cons_zero, List.set_cons_succ]))
      (refine wpAnyH_ready (rs := [4]) (by kernel_rfl) (by simp) ?_; refine AllReadyH.cons rfl ?_ AllReadyH.nil; intro KQ hKQ; refine if_no (by rfl) ?_; refine hKQ.out _ _ trivial (fun _ => ?_); clear hKQ KQ; (try simp only [Act.put, List.getElem_toArray, List.getElem_cons_succ, List.getElem_cons_zero, List.setIfInBounds_toArray, List.set_cons_zero, List.set_cons_succ]))
      (refine wpAnyH_ready (rs := [6]) (by kernel_rfl) (by simp) ?_; refine AllReadyH.cons rfl ?_ AllReadyH.nil; intro KQ hKQ; refine if_no (by rfl) ?_; refine hKQ.out _ _ trivial (fun _ => ?_); clear hKQ KQ; (try simp only [Act.put, List.getElem_toArray, List.getElem_cons_succ, List.getElem_cons_zero, List.setIfInBounds_toArray, List.set_cons_zero, List.set_cons_succ]))
      (refine wpAnyH_ready (rs := [7]) (by kernel_rfl) (by simp) ?_; refine AllReadyH.cons rfl ?_ AllReadyH.nil; intro KQ hKQ; refine if_no (by rfl) ?_; refine hKQ.out _ _ trivial (fun _ => ?_); clear hKQ KQ; (try simp only [Act.put, List.getElem_toArray, List.getElem_cons_succ, List.getElem_cons_zero, List.setIfInBounds_toArray, List.set_cons_zero, List.set_cons_succ]))
      (refine wpAnyH_take (i := 8) (oi := _) (v := undef) (by (simp only [List.getElem?_toArray, List.getElem?_cons_succ, List.getElem?_cons_zero]); rfl) (by kernel_rfl) (by kernel_rfl) (by kernel_rfl) (by exact fun _ _ _ h => h) (Or.inr ⟨by rfl, rfl⟩) trivial ?_; (try simp only [Act.put, List.getElem_toArray, List.getElem_cons_succ, List.getElem_cons_zero, List.setIfInBounds_toArray, List.set_cons_zero, List.set_cons_succ]))
      (refine wpAnyH_take (i := 9) (oi := _) (v := undef) (by (simp only [List.getElem?_toArray, List.getElem?_cons_succ, List.getElem?_cons_zero]); rfl) (by kernel_rfl) (by kernel_rfl) (by kernel_rfl) (by exact fun _ _ _ h => h) (Or.inr ⟨by rfl, rfl⟩) trivial ?_; (try simp only [Act.put, List.getElem_toArray, List.getElem_cons_succ, List.getElem_cons_zero, List.setIfInBounds_toArray, List.set_cons_zero, List.set_cons_succ]))
      (refine wpAnyH_take (i := 11) (oi := _) (v := undef) (by (simp only [List.getElem?_toArray, List.getElem?_cons_succ, List.getElem?_cons_zero]); rfl) (by kernel_rfl) (by kernel_rfl) (by kernel_rfl) (by exact fun _ _ _ h => h) (Or.inr ⟨by rfl, rfl⟩) trivial ?_; (try simp only [Act.put, List.getElem_toArray, List.getElem_cons_succ, List.getElem_cons_zero, List.setIfInBounds_toArray, List.set_cons_zero, List.set_cons_succ]))
      (refine wpAnyH_take (i := 12) (oi := _) (v := undef) (by (simp only [List.getElem?_toArray, List.getElem?_cons_succ, List.getElem?_cons_zero]); rfl) (by kernel_rfl) (by kernel_rfl) (by kernel_rfl) (by exact fun _ _ _ h => h) (Or.inr ⟨by rfl, rfl⟩) trivial ?_; (try simp only [Act.put, List.getElem_toArray, List.getElem_cons_succ, List.getElem_cons_zero, List.setIfInBounds_toArray, List.set_cons_zero, List.set_cons_succ]))
      (refine wpAnyH_take (i := 13) (oi := _) (v := undef) (by (simp only [List.getElem?_toArray, List.getElem?_cons_succ, List.getElem?_cons_zero]); rfl) (by kernel_rfl) (by kernel_rfl) (by kernel_rfl) (by exact fun _ _ _ h => h) (Or.inr ⟨by rfl, rfl⟩) trivial ?_; (try simp only [Act.put, List.getElem_toArray, List.getElem_cons_succ, List.getElem_cons_zero, List.setIfInBounds_toArray, List.set_cons_zero, List.set_cons_succ]))
      (refine wpAnyH_take (i := 14) (oi := _) (v := undef) (by (simp only [List.getElem?_toArray, List.getElem?_cons_succ, List.getElem?_cons_zero]); rfl) (by kernel_rfl) (by kernel_rfl) (by kernel_rfl) (by exact fun _ _ _ h => h) (Or.inr ⟨by rfl, rfl⟩) trivial ?_; (try simp only [Act.put, List.getElem_toArray, List.getElem_cons_succ, List.getElem_cons_zero, List.setIfInBounds_toArray, List.set_cons_zero, List.set_cons_succ]))
      (refine wpAnyH_ready (rs := [10]) (by kernel_rfl) (by simp) ?_; refine AllReadyH.cons rfl ?_ AllReadyH.nil; intro KQ hKQ; refine if_no (by rfl) ?_; refine hKQ.out _ _ trivial (fun _ => ?_); clear hKQ KQ; (try simp only [Act.put, List.getElem_toArray, List.getElem_cons_succ, List.getElem_cons_zero, List.setIfInBounds_toArray, List.set_cons_zero, List.set_cons_succ]))
      (refine wpAnyH_ready (rs := [15]) (by kernel_rfl) (by simp) ?_; refine AllReadyH.cons rfl ?_ AllReadyH.nil; intro KQ hKQ; refine if_no (by rfl) ?_; refine hKQ.out _ _ trivial (fun _ => ?_); clear hKQ KQ; (try simp only [Act.put, List.getElem_toArray, List.getElem_cons_succ, List.getElem_cons_zero, List.setIfInBounds_toArray, List.set_cons_zero, List.set_cons_succ]))
      (refine wpAnyH_take (i := 16) (oi := _) (v := undef) (by (simp only [List.getElem?_toArray, List.getElem?_cons_succ, List.getElem?_cons_zero]); rfl) (by kernel_rfl) (by kernel_rfl) (by kernel_rfl) (by exact fun _ _ _ h => h) (Or.inr ⟨by rfl, rfl⟩) trivial ?_; (try simp only [Act.put, List.getElem_toArray, List.getElem_cons_succ, List.getElem_cons_zero, List.setIfInBounds_toArray, List.set_cons_zero, List.set_cons_succ]))
      (refine wpAnyH_take (i := 17) (oi := _) (v := ?_) (by (simp only [List.getElem?_toArray, List.getElem?_cons_succ, List.getElem?_cons_zero]); rfl) (by kernel_rfl) (by kernel_rfl) (by kernel_rfl) (by exact fun _ _ _ h => h) (Or.inl ⟨by rfl, ?_⟩) trivial ?_; rotate_left; focus ((intro w hSw; go_simp) <;> with_reducible rfl); (try simp only [Act.put, List.getElem_toArray, List.getElem_cons_succ, List.getElem_cons_zero, List.setIfInBounds_toArray, List.set_cons_zero, List.set_cons_succ]))
      (refine wpAnyH_take (i := 18) (oi := _) (v := ?_) (by (simp only [List.getElem?_toArray, List.getElem?_cons_succ, List.getElem?_cons_zero]); rfl) (by kernel_rfl) (by kernel_rfl) (by kernel_rfl) (by exact fun _ _ _ h => h) (Or.inl ⟨by rfl, ?_⟩) trivial ?_; rotate_left; focus ((intro w hSw; go_simp) <;> with_reducible rfl); (try simp only [Act.put, List.getElem_toArray, List.getElem_cons_succ, List.getElem_cons_zero, List.setIfInBounds_toArray, List.set_cons_zero, List.set_cons_succ]))
      refine wpAnyH_ready (rs := [19]) (by kernel_rfl) (by simp) ?_
      refine AllReadyH.cons rfl ?_ AllReadyH.nil
      intro KQ hKQ
      go_simp
      refine (HLV.out _ HK5.out.drew).mono ?_
      rintro e w6 ⟨rfl, kk⟩
      have K6 := hid (HK5.out.drew.trans kk)
      clear kk
      refine hKQ.out _ _ trivial (fun _ => ?_)
      clear hKQ KQ
      (try simp only [Act.put, List.getElem_toArray, List.getElem_cons_succ, List.getElem_cons_zero, List.setIfInBounds_toArray, List.set_cons_zero, List.set_cons_succ])
      (refine wpAnyH_take (i := 20) (oi := _) (v := ?_) (by (simp only [List.getElem?_toArray, List.getElem?_cons_succ, List.getElem?_cons_zero]); rfl) (by kernel_rfl) (by kernel_rfl) (by kernel_rfl) (by exact fun _ _ _ h => h) (Or.inl ⟨by rfl, ?_⟩) trivial ?_; rotate_left; focus ((intro w hSw; go_simp) <;> with_reducible rfl); (try simp only [Act.put, List.getElem_toArray, List.getElem_cons_succ, List.getElem_cons_zero, List.setIfInBounds_toArray, List.set_cons_zero, List.set_cons_succ]))
      (refine wpAnyH_take (i := 21) (oi := _) (v := ?_) (by (simp only [List.getElem?_toArray, List.getElem?_cons_succ, List.getElem?_cons_zero]); rfl) (by kernel_rfl) (by kernel_rfl) (by kernel_rfl) (by exact fun _ _ _ h => h) (Or.inl ⟨by rfl, ?_⟩) trivial ?_; rotate_left; focus ((intro w hSw; go_simp) <;> with_reducible rfl); (try simp only [Act.put, List.getElem_toArray, List.getElem_cons_succ, List.getElem_cons_zero, List.setIfInBounds_toArray, List.set_cons_zero, List.set_cons_succ]))
      refine wpAnyH_done (by kernel_rfl) ?_ _
      go_wp2_with fail
      go_ret
      exact ⟨rfl, K1.out.trans K6.out⟩
    | some l =>
      rw [hr] at HI HJ
      clear hr
      go_wp2_with fail
      refine HI.out.mono ?_
      rintro e w3 ⟨bm, kk, hkk, ha1, ha2, rfl, hnm⟩
      have ct3 := blk_cell ((HK2.out.trans hnm.old).heap BA.out trivial)
      have HNM := hid hnm; have HL1 := hid (And.intro ha1 ha2)
      clear hnm ha1 ha2 ct hkk
      go_wp2_with fail
      refine (HJ.out w3 (HK2.out.trans HNM.out.old)).mono ?_
      rintro e w4 ⟨bq, k', Oq, hk', hb1, hb2, rfl, hql, hk4⟩
      have hkeq : kk = k' := least_pow HL1.out.1 HL1.out.2 hb1 hb2
      subst hkeq
      obtain ⟨M, hM⟩ : ∃ M, putsP (sipP k0 k1) (madeP (2 ^ kk)) l = M := ⟨_, rfl⟩
      obtain ⟨Op, hlp, _, hold⟩ := HNM.out
      rw [hM] at hql hlp
      have HK4 := hid (hold.trans hk4)
      have HLP := hid (hlp.all hk4); have HQL := hid hql
      clear hM hql hlp hold hk4 hb1 hb2 HL1 HNM ct3 hk'
      go_wp2_with fail
      refine (HKP.out w4 HK4.out).mono ?_
      rintro e w5 ⟨rfl, hk5⟩
      have HK5 := hid (HK2.out.trans (HK4.out.trans hk5))
      have HIP := hid (fun W (k : Kp All w5 W) => lm_pairs (HLP.out.all (hk5.trans k)))
      have HRP := hid (fun W (k : Kp All w5 W) => r7pairs_any k0 k1 bq M Oq W (HQL.out.all (hk5.trans k)))
      have HCT := hid (fun W (k : Kp All w5 W) => mctrl_any k0 k1 bm M Op W (HLP.out.all (hk5.trans k)))
      have hP := HQL.out.inv.pm
      have hpl : (pairsP M).length ≤ 2000 := by rw [pairs_len HQL.out.inv.slen]; exact HQL.out.inv.most
      obtain ⟨bw, cw, bs, cs, hms, _⟩ := HQL.out.ms
      have HMS := hid (hms.all hk5)
      have HWD := hid (fun W (k : Kp All w5 W) => (qs_words hP (hms.all hk5)).step k)
      have hctl : M.ctrl.length / 8 = M.g := rfl
      have hg1 := hP.g1
      have ct5 := blk_cell (hms.all hk5).str
      obtain ⟨X, hX⟩ : ∃ X, pairsP M = X := ⟨_, rfl⟩
      rw [hX] at HIP HRP hpl
      obtain ⟨xl, hxl⟩ : ∃ xl, X.length = xl := ⟨_, rfl⟩
      have HXL := hid hxl
      rw [hxl] at HIP HRP hpl
      have HSX := hid (fun W A c A' c' (hf : Foot All (Sl A xl c 2 (scs X)) W) (hf' : Foot All (Sl A' xl c' 2 (scs X)) W) => rsame07_any A A' xl xl c c' X X HXL.out HXL.out (by omega) (by omega) W hf hf')
      rw [decide_eq_true rfl] at HSX
      have HWS := hid (fun W A c (hf : Foot All (Sl A M.g c 1 (wcs M.ctrl)) W) (k : Kp All w5 W) => r1words_any A (some ⟨bw, 0, none⟩) M.g c cw M.ctrl hctl (by omega) W hf (HWD.out W k))
      clear hk5 hms hX hxl hctl hP
      go_wp2_with fail
      go_region_held3 (fun w' => ∀ i, w'.cell? ⟨bq, i, none⟩ = (#[.int .u64 k0, .int .u64 k1, .slice (some ⟨bw, 0, none⟩) M.g cw, .slice (some ⟨bs, 0, none⟩) (8 * M.g) cs, .int .i64 M.cnt, .int .i64 M.tmb] : Array Value)[i]?) (first | assumption | exact blk_cell (Q6.out.heap HMS.out.str trivial) | exact blk_cell (Q5.out.heap HMS.out.str trivial) | exact blk_cell (Q4.out.heap HMS.out.str trivial) | exact blk_cell (Q3.out.heap HMS.out.str trivial) | exact blk_cell (Q2.out.heap HMS.out.str trivial) | exact blk_cell (Q1.out.heap HMS.out.str trivial)) (first | (go_at_call 8; refine (HLV.out _ (HK5.out.trans (by exact Q5.out))).mono ?_; rintro e x6 ⟨rfl, kk⟩; have Q6 := hid (Q5.out.trans kk); clear kk) | (go_at_call 25; refine (HWS.out _ A4 c4 (by exact F4.out) (by exact Q4.out)).mono ?_; rintro e x5 ⟨rfl, kk⟩; have Q5 := hid (Q4.out.trans kk); clear kk) | (go_at_call 26; refine (HCT.out _ (by exact Q3.out)).mono ?_; rintro e x4 ⟨A4, c4, rfl, hf, kk⟩; have F4 := hid hf; have Q4 := hid (Q3.out.trans kk); clear hf kk) | (go_at_call 14; refine (HSX.out _ A1 c1 A2 c2 (by exact F12.out) (by exact F2.out)).mono ?_; rintro e x3 ⟨rfl, kk⟩; have Q3 := hid (Q2.out.trans kk); clear kk) | (go_at_call 13; refine (HRP.out _ (by exact Q1.out)).mono ?_; rintro e x2 ⟨A2, c2, rfl, hf, kk⟩; have F2 := hid hf; have F12 := hid (F1.out.step kk); have Q2 := hid (Q1.out.trans kk); clear hf kk) | (go_at_call 15; refine (HIP.out _ (by first | exact (Kp.refl All w5).drew | exact Kp.refl All w5)).mono ?_; rintro e x1 ⟨A1, c1, rfl, hf, kk⟩; have F1 := hid hf; have Q1 := hid (show Kp All w5 x1 from by first | exact (Kp.refl All w5).drew.trans kk | exact kk); clear hf kk))
      all_goals
        go_wp2_with fail
        go_ret
        exact ⟨rfl, K1.out.trans (HK5.out.trans Q6.out)⟩
end Go.Proofs.YtodledidabdkaaaGreatDoor
