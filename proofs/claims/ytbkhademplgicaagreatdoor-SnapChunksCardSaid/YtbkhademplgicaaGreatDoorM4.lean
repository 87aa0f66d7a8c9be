/- The entry layer's items and conf: walked once each. No condition but that the reader lies. The entry layer's reader.snap, told, over, ReadSnap: walked once each. No condition but that the bytes lie. The entry layer's told, over, ReadSnap: walked once each. No condition but that the bytes lie. -/
import Derived.Test.YtbkhademplgicaaGreatDoorM3
import Derived.Lib.ConvBytes
import Derived.Deep.DeepCutAuto
set_option linter.unusedVariables false
set_option linter.unusedSimpArgs false
namespace Go.Proofs.YtbkhademplgicaaGreatDoor
open Go.RowKit
set_option linter.unusedVariables false
set_option linter.unusedSimpArgs false
theorem elI : El Tryz.prog 22 3 1 8 (.int .i64 0) := ⟨Tryz.underlying22, by kernel_rfl, rfl, by decide, by decide⟩
theorem ivs_one (l : List Int) : ∀ u ∈ ivs l, u.oneCell' = true := by
  intro u hu
  obtain ⟨x, _, rfl⟩ := List.mem_map.1 hu
  rfl
theorem sl_new1i (w : World) (z : Int) (t : TypeId) : Sl (some ⟨w.heap.size, 0, none⟩) 1 1 1 (ivs [z]) (w.alloc (.cells #[.int .i64 z] t)) := (sl_ints1 w z t).now
theorem cntX_le (xs : By) (b : Bool) (most : Nat) : (cntX xs b most).1 ≤ most := by
  unfold cntX
  split
  · exact Nat.zero_le _
  · next h => simp only; omega
theorem itemsP_len (m : Nat) : ∀ (t : Sx) (acc : List Int), (itemsP m t acc).1.length ≤ acc.length + m := by
  induction m with
  | zero => intro t acc; exact Nat.le_refl _
  | succ m ih =>
    intro t acc
    rw [itemsP]
    split
    · simp only; omega
    · have := ih (nX t) (acc ++ [iV t])
      rw [List.length_append, List.length_singleton] at this
      omega
theorem listP_len (s : Sx) : (listP s).1.length ≤ 1000000 := by
  have h1 := itemsP_len (cV s 1000000) (cX s 1000000) []
  have h2 := cntX_le s.1 s.2 1000000
  unfold listP
  unfold cV at h1 ⊢
  simp only [List.length_nil] at h1
  omega
def Items (q : Nat) (s : Sx) (w : World) (e : Ending) (w' : World) : Prop := ∃ v, e = .returned v ∧ w'.ownsRow w.heap.size 3 1 v (listP s).1.length (ivs (listP s).1) ∧ Rs q (listP s).2 w' ∧ Kp (fun k => k ≠ q) w w'
set_option maxRecDepth 100000 in
set_option maxHeartbeats 2000000 in
theorem items_any (q : Nat) (s : Sx) (w : World) (h : Rs q s w) :
    Calls Tryz.prog 156 #[.pointer (some ⟨q, 0, none⟩), .int .i64 1000000, .func (.func 125) #[.pointer (some ⟨q, 0, none⟩)] #[]] w (Items q s w) := by
  have H := hid h
  have hq : q < w.heap.size := by obtain ⟨v, ty, h1, _⟩ := h; exact blk_lt h1
  obtain ⟨m0, hm0⟩ : ∃ m0, (cntX s.1 s.2 1000000).1 = m0 := ⟨_, rfl⟩
  have hm9 : m0 ≤ 1000000 := by rw [← hm0]; exact cntX_le _ _ _
  have HM0 := hid hm0
  clear h hm0
  go_enter Tryz.func156, Tryz.ntmps156
  go_wp2_with fail
  refine (rcount_any q s.1 s.2 1000000 (by omega) _ H.out).mono ?_
  rw [HM0.out]
  rintro e w1 ⟨rfl, hr1, hk1⟩
  have HR1 := hid (show Rs q (cX s 1000000) w1 from hr1)
  have HK1 := hid hk1
  clear hr1 hk1
  go_wp2_with fail
  go_loopw [7, 8] (fun x i wr => ∃ (m : Nat) (t : Sx) (acc : List Int), i = .int .i64 m ∧ acc.length + m ≤ 1000000 ∧ Hid (itemsP m t acc = listP s) ∧ Hid (Rs q t wr) ∧ Hid (wr.ownsRow w.heap.size 3 1 x acc.length (ivs acc)) ∧ Hid (Kp (fun k => k ≠ q) w wr)) (fun _ i _ => (intOf i).toNat)
  case atStart => exact ⟨m0, cX s 1000000, [], rfl, by simpa using hm9, hid (by rw [listP, cV, HM0.out]), HR1, hid (World.ownsRow_nil _ _ _ _), HK1⟩
  case round =>
    obtain ⟨m, t, acc, rfl, hacc, hit, hrs, hown, hkp⟩ := hrel
    obtain ⟨A3, c3, rfl⟩ := own_shape hown.out
    obtain ⟨al, hal⟩ : ∃ al, acc.length = al := ⟨_, rfl⟩
    have HAL := hid hal
    have ho := hown.out
    rw [hal] at ho hacc ⊢
    have HOW0 := hid ho
    clear hal ho
    match m, hacc, hit with
    | 0, _, hit =>
      have d0 : decide ((0 : Int) < ((0 : Nat) : Int)) = false := by decide
      have he := hit.out
      rw [itemsP] at he
      go_wp2_with fail
      go_ret
      refine ⟨_, rfl, ?_, ?_, hkp.out⟩
      · rw [← he]; dsimp only; rw [HAL.out]; exact HOW0.out
      · rw [← he]; exact hrs.out
    | m + 1, hacc, hit =>
      have d0 : decide ((0 : Int) < ((m + 1 : Nat) : Int)) = true := decide_eq_true (by omega)
      obtain ⟨xs, b⟩ := t
      obtain ⟨vq, tyq, hcq, hfq, hlq⟩ := hrs.out
      have cq := blk_cell hcq
      clear hcq hfq hlq
      cases b with
      | true =>
        have he := hit.out
        rw [itemsP, if_pos rfl] at he
        go_wp2_with fail
        go_ret
        refine ⟨_, rfl, ?_, ?_, hkp.out⟩
        · rw [← he]; dsimp only; rw [HAL.out]; exact HOW0.out
        · rw [← he]; exact hrs.out
      | false =>
        have he := hit.out
        rw [itemsP, if_neg (by simp)] at he
        have HE := hid he
        clear he
        go_wp2_with fail
        refine (int_s q (xs, false) _ hrs.out).mono ?_
        rintro e w2 ⟨rfl, hr2, hk2⟩
        have ho2 := own_kept HOW0.out hk2 (fun b hb e => by
          have := (HOW0.out.lt b hb).1; omega)
        have HR2 := hid hr2; have HK2 := hid (hkp.out.trans hk2); have HO2 := hid ho2
        clear hr2 hk2 ho2 cq
        go_wp2_with (at_builtin; go_loud (refine wpList_app elI (HO2.out.alloc _) (sl_new1i _ _ _) (ivs_one _) ?_ (Nat.le_trans HK2.out.size (by simp)) rfl _ _ rfl rfl rfl ?_); omega; intro v' w4 hown4 hg4 hob4 hnil4; obtain ⟨A4, c4', rfl⟩ := own_shape hown4; have HOW4 := hid hown4; have HG4 := hid hg4; clear hown4 hg4 hob4 hnil4)
        have k24 : Kp (fun i => i ≤ q) w2 w4 := ((Kp.refl _ w2).alloc _).then (Kp.grown HG4.out) (fun i hi hle e => by
          have := (HO2.out.lt i e.symm).1
          omega)
        have k4 : Kp (fun i => i ≠ q) w w4 := (HK2.out.alloc _).then (Kp.grown HG4.out) (fun i hi _ e => by
          have := (HO2.out.lt i e.symm).1
          omega)
        refine ⟨⟨m, nX (xs, false), acc ++ [iV (xs, false)], rfl, by rw [List.length_append, HAL.out, List.length_singleton]; omega, HE, hid (HR2.out.kept k24 (fun i hi => hi)), ?_, k4⟩, by simp [intOf]⟩
        refine hid ?_
        have h := HOW4.out
        rw [List.length_append, HAL.out]
        have e : ivs (acc ++ [iV (xs, false)]) = ivs acc ++ ivs [iV (xs, false)] := by simp [ivs]
        rw [e]
        exact h
theorem own_ne {w : World} {base e sz n b : Nat} {v : Value} {xs : List Value} {cs : Array Value} {t : TypeId} {fz : Nat × Nat} (h : w.ownsRow base e sz v n xs) (hb : w.heap[b]? = some (.cells cs t fz)) (ht : t ≠ e) : ∀ i, v.ownBlock = some i → i ≠ b := by
  intro i hi he
  subst he
  rcases own_at h with ⟨rfl, _⟩ | ⟨g, cap, cur, rfl, hg, _⟩
  · cases hi
  · injection hi with hi
    simp only at hi
    subst hi
    rw [hb] at hg
    injection hg with hg
    injection hg with _ hg
    exact ht hg
/-- The members that are read. -/
def ConfR (q : Nat) (s : Sx) (w : World) (e : Ending) (w' : World) : Prop := ∃ VA vc LA lc, e = .returned (.agg #[.slice VA (listP s).1.length vc, .slice LA (listP (listP s).2).1.length lc]) ∧ w'.ownsRow w.heap.size 3 1 (.slice VA (listP s).1.length vc) (listP s).1.length (ivs (listP s).1) ∧ w'.ownsRow w.heap.size 3 1 (.slice LA (listP (listP s).2).1.length lc) (listP (listP s).2).1.length (ivs (listP (listP s).2).1) ∧ Rs q (listP (listP s).2).2 w' ∧ Kp (fun k => k ≠ q) w w'
set_option maxRecDepth 100000 in
set_option maxHeartbeats 2000000 in
theorem conf_any (q : Nat) (s : Sx) (w : World) (h : Rs q s w) :
    Calls Tryz.prog 126 #[.pointer (some ⟨q, 0, none⟩)] w (ConfR q s w) := by
  have H := hid h
  have hq : q < w.heap.size := by obtain ⟨v, ty, h1, _⟩ := h; exact blk_lt h1
  have hmf : ∀ (fn : Fn) (first cap : Array Value) (w : World), (Instr.makeFunc fn first cap).run Tryz.prog w = .ok (.func fn first cap) w := fun _ _ _ _ => rfl
  clear h
  go_enter Tryz.func126, Tryz.ntmps126
  go_wp2_with fail
  refine (items_any q s _ (H.out.all (Kp.al _ _))).mono ?_
  rintro e w1 ⟨v1, rfl, ho1, hr1, hk1⟩
  obtain ⟨A1, c1, rfl⟩ := own_shape ho1
  obtain ⟨l1, hl1⟩ : ∃ l1, (listP s).1 = l1 := ⟨_, rfl⟩
  obtain ⟨s1, hs1⟩ : ∃ s1, (listP s).2 = s1 := ⟨_, rfl⟩
  have HL1 := hid hl1; have HS1 := hid hs1
  rw [hl1] at ho1
  rw [hs1] at hr1
  rw [hl1]
  obtain ⟨n1, hn1⟩ : ∃ n1, l1.length = n1 := ⟨_, rfl⟩
  have HN1 := hid hn1
  rw [hn1] at ho1 ⊢
  have hb1 := hk1.heap (blk_new w (.cells #[.slice none 0 0, .slice none 0 0] 24)) (show w.heap.size ≠ q by omega)
  have HO1 := hid (World.ownsRow.mono (base' := w.heap.size) ho1 (by simp)); have HR1 := hid hr1; have HK1 := hid (((Kp.al w (.cells #[.slice none 0 0, .slice none 0 0] 24)).all).trans hk1)
  have HB1 := hid hb1
  clear hl1 hs1 ho1 hr1 hn1 hb1 hk1
  go_wp2_with fail
  have hbl : w.heap.size < w1.heap.size := blk_lt HB1.out
  have k2 : Kp (fun k => k ≠ q) w1 (w1.alloc (.cells #[.slice A1 n1 c1, .slice none 0 0] 24)) := (Kp.al _ _).all
  refine (items_any q s1 _ (HR1.out.all (Kp.al _ _))).mono ?_
  rintro e w2 ⟨v2, rfl, ho2, hr2, hk2⟩
  obtain ⟨A2, c2, rfl⟩ := own_shape ho2
  obtain ⟨l2, hl2⟩ : ∃ l2, (listP s1).1 = l2 := ⟨_, rfl⟩
  have HL2 := hid hl2
  rw [hl2] at ho2
  rw [hl2]
  obtain ⟨n2, hn2⟩ : ∃ n2, l2.length = n2 := ⟨_, rfl⟩
  have HN2 := hid hn2
  rw [hn2] at ho2 ⊢
  have hb2 := (k2.trans hk2).heap HB1.out (show w.heap.size ≠ q by omega)
  have hx2 := hk2.heap (blk_new w1 (.cells #[.slice A1 n1 c1, .slice none 0 0] 24)) (show w1.heap.size ≠ q by omega)
  have ho1' := own_kept HO1.out (k2.trans hk2) (fun b hb e => by have := (HO1.out.lt b hb).1; omega)
  have HB2 := hid hb2; have HX2 := hid hx2; have cb2 := blk_cell hb2; have fb2 := blk_free hb2; have cx2 := blk_cell hx2; have fx2 := blk_free hx2
  have HO1' := hid ho1'; have HO2 := hid (World.ownsRow.mono (base' := w.heap.size) ho2 (by simp; omega)); have HR2 := hid hr2; have HK2 := hid ((HK1.out.trans k2).trans hk2)
  clear hl2 ho2 hr2 hn2 hb2 hx2 hk2 ho1' k2
  go_wp2_with fail
  refine bodyPost_ret (v := .agg #[.slice A1 n1 c1, .slice A2 n2 c2]) (by simp [results, Tryz.results126, go_sem, cb2]) rfl ?_
  have kF : Kp (fun i => i ≠ w.heap.size ∧ i ≠ w1.heap.size) w2 (((w2.setCell ⟨w1.heap.size, 1, none⟩ (.slice A2 n2 c2)).setCell ⟨w.heap.size, 0, none⟩ (.slice A1 n1 c1)).setCell ⟨w.heap.size, 1, none⟩ (.slice A2 n2 c2)) := (((Kp.refl _ _).setOut (fun h => h.2 rfl) _).setOut (fun h => h.1 rfl) _).setOut (fun h => h.1 rfl) _
  have hn1 := own_ne HO1'.out HB2.out (by decide); have hn2 := own_ne HO2.out HB2.out (by decide); have hm1 := own_ne HO1'.out HX2.out (by decide); have hm2 := own_ne HO2.out HX2.out (by decide)
  have hsz := HK1.out.size
  refine ⟨A1, c1, A2, c2, ?_, ?_, ?_, ?_, ?_⟩
  · rw [HL1.out, HS1.out, HL2.out, HN1.out, HN2.out]
  · rw [HL1.out, HN1.out]; exact own_kept HO1'.out kF fun i hi => ⟨hn1 i hi, hm1 i hi⟩
  · rw [HS1.out, HL2.out, HN2.out]; exact own_kept HO2.out kF fun i hi => ⟨hn2 i hi, hm2 i hi⟩
  · rw [HS1.out]; exact HR2.out.kept kF (fun i hi => ⟨by omega, by omega⟩)
  · exact ((HK2.out.setNew (by omega) _).setNew (Nat.le_refl _) _).setNew (Nat.le_refl _) _
end Go.Proofs.YtbkhademplgicaaGreatDoor

namespace Go.Proofs.YtbkhademplgicaaGreatDoor
open Go.RowKit
set_option linter.unusedVariables false
set_option linter.unusedSimpArgs false
theorem conv_bytes (s : ByteArray) (w : World) : ∃ c W', (convert 9 25 (.string s)).run Tryz.prog w = .ok (.slice (some ⟨w.heap.size, 0, none⟩) s.size c) W' ∧ Foot (fun i => i = w.heap.size) (Rb (.slice (some ⟨w.heap.size, 0, none⟩) s.size c) s.data.toList) W' ∧ Kp All w W' := by
  have h := Lib.run_convert_string_bytes (P := Tryz.prog) w 9 25 5 s Tryz.underlying9 Tryz.underlying25 Tryz.underlying5
  refine ⟨_, _, h, fun u hu => ?_, ?_⟩
  · have hb := hu.heap (Lib.bytesWorld_at_new w 5 s) rfl
    refine ⟨some ⟨w.heap.size, 0, none⟩, grownCap w s.size 0 5, by rw [Array.length_toList]; rfl, ?_⟩
    have hl : s.data.toList.length = s.size := Array.length_toList ..
    rw [hl]
    refine ⟨by rw [u8s_len, hl]; omega, ?_, fun _ => ⟨_, 0, rfl, fun j z hj => ?_⟩⟩
    · exact grownCap_ge _ _ _ _
    · rw [Nat.zero_add, blk_cell hb]
      have hjl : j < s.size := by
        have := (List.getElem?_eq_some_iff.1 hj).1
        rw [u8s_len, hl] at this; exact this
      rw [Lib.bytesCells, Array.getElem?_append_left (by simp; exact hjl)]
      simp only [u8s, List.getElem?_map, Array.getElem?_toList] at hj
      simpa using hj
  · refine ⟨rfl, rfl, rfl, by rw [Lib.bytesWorld_size]; omega, fun b hb _ => Lib.bytesWorld_at_old w 5 s b hb⟩
theorem own_ints {w : World} {base q n c : Nat} {A : Option Addr} {zs : List Int} (h : w.ownsRow base 3 1 (.slice A n c) n (ivs zs)) (hb : q < base) : Foot (fun i => q < i) (Sl A n c 1 (ivs zs)) w := by
  intro u hu
  have := (own_sl (own_kept h hu (fun b hi => by have := (h.lt b hi).1; show q < b; omega)) (Nat.le_refl _)).1
  rwa [List.take_of_length_le (by rw [h.1]; omega)] at this
theorem set5 {w : World} {b : Nat} {t : TypeId} {a0 a1 a2 a3 a4 v0 v1 v2 v3 v4 : Value} (h : w.heap[b]? = some (.cells #[a0, a1, a2, a3, a4] t (0, 0))) : (((((w.setCell ⟨b, 0, none⟩ v0).setCell ⟨b, 1, none⟩ v1).setCell ⟨b, 2, none⟩ v2).setCell ⟨b, 3, none⟩ v3).setCell ⟨b, 4, none⟩ v4).heap[b]? = some (.cells #[v0, v1, v2, v3, v4] t (0, 0)) := by
  rw [blk_set (blk_set (blk_set (blk_set (blk_set h 0 _) 1 _) 2 _) 3 _) 4 _]; rfl
theorem far5 {w : World} {b c : Nat} {o : Obj} {v0 v1 v2 v3 v4 : Value} (h : w.heap[c]? = some o) (hne : c ≠ b) : (((((w.setCell ⟨b, 0, none⟩ v0).setCell ⟨b, 1, none⟩ v1).setCell ⟨b, 2, none⟩ v2).setCell ⟨b, 3, none⟩ v3).setCell ⟨b, 4, none⟩ v4).heap[c]? = some o :=
  blk_far (blk_far (blk_far (blk_far (blk_far h hne _) hne _) hne _) hne _) hne _
theorem kp5 {w : World} {b : Nat} {v0 v1 v2 v3 v4 : Value} : Kp (fun i => i ≠ b) w (((((w.setCell ⟨b, 0, none⟩ v0).setCell ⟨b, 1, none⟩ v1).setCell ⟨b, 2, none⟩ v2).setCell ⟨b, 3, none⟩ v3).setCell ⟨b, 4, none⟩ v4) := (((((Kp.refl _ _).setOut (fun h => h rfl) _).setOut (fun h => h rfl) _).setOut (fun h => h rfl) _).setOut (fun h => h rfl) _).setOut (fun h => h rfl) _
/-- A snapshot that is read. -/
def SnapRd (q : Nat) (s : Sx) (w : World) (e : Ending) (w' : World) : Prop := ∃ VA LA DA vc lc dc, e = .returned (.agg #[.int .i64 (snapR s).1.index, .int .i64 (snapR s).1.term, .slice VA (snapR s).1.V.length vc, .slice LA (snapR s).1.L.length lc, .slice DA (snapR s).1.data.length dc]) ∧ SnpS (fun i => q < i) (snapR s).1 VA LA DA (snapR s).1.V.length vc (snapR s).1.L.length lc (snapR s).1.data.length dc w' ∧ Rs q (snapR s).2 w' ∧ Kp (fun k => k ≠ q) w w'
set_option maxRecDepth 100000 in
set_option maxHeartbeats 4000000 in
theorem snapr_any (q : Nat) (s : Sx) (w : World) (h : Rs q s w) :
    Calls Tryz.prog 85 #[.pointer (some ⟨q, 0, none⟩)] w (SnapRd q s w) := by
  have H := hid h
  have hq : q < w.heap.size := by obtain ⟨v, ty, h1, _⟩ := h; exact blk_lt h1
  clear h
  go_enter Tryz.func85, Tryz.ntmps85
  go_wp2_with fail
  have b7 := blk_new w (.cells #[.int .i64 0, .int .i64 0, .slice none 0 0, .slice none 0 0, .slice none 0 0] 27)
  have k7 : Kp (fun i => i ≠ q) w (w.alloc (.cells #[.int .i64 0, .int .i64 0, .slice none 0 0, .slice none 0 0, .slice none 0 0] 27)) := (Kp.al _ _).all
  have H7 := hid (H.out.all (Kp.al w (.cells #[.int .i64 0, .int .i64 0, .slice none 0 0, .slice none 0 0, .slice none 0 0] 27)))
  obtain ⟨W7, hW7⟩ : ∃ W7, W7 = w.alloc (.cells #[.int .i64 0, .int .i64 0, .slice none 0 0, .slice none 0 0, .slice none 0 0] 27) := ⟨_, rfl⟩
  rw [← hW7] at b7 k7 H7 ⊢
  have B7 := hid b7; have K7 := hid k7
  have hs7 : w.heap.size < W7.heap.size := blk_lt b7
  clear b7 hW7 k7
  go_cut [3] (fun s3 wx => ∃ g : Nat, s3 = .pointer (some ⟨g, 0, none⟩) ∧ w.heap.size < g ∧ Hid (wx.heap[g]? = some (.cells #[.int .i64 (iV s), .int .i64 (iV (nX s)), .slice none 0 0, .slice none 0 0, .slice none 0 0] 27 (0, 0))) ∧ Hid (wx.heap[w.heap.size]? = some (.cells #[.int .i64 0, .int .i64 0, .slice none 0 0, .slice none 0 0, .slice none 0 0] 27 (0, 0))) ∧ Hid (Rs q (nX (nX s)) wx) ∧ Hid (Kp (fun k => k ≠ q) w wx))
  case first =>
    go_region_held3 (fun w' => True) (trivial) (first | (go_at_call 125; have h8 := HR8.out; clear h8; refine (int_s q (nX s) _ (HR8.out.all (by first | exact Kp.refl _ _ | exact Kp.al _ _))).mono ?_; rintro e w9 ⟨rfl, hr9, hk9⟩; (first | (have hx9 := hk9.heap (blk_new w8 (.cells #[.int .i64 0, .int .i64 0, .slice none 0 0, .slice none 0 0, .slice none 0 0] 27)) (show w8.heap.size ≠ q by omega)) | (have hx9 := hk9.heap HX8.out (Nat.ne_of_gt (Nat.lt_trans hq hs7))) | skip); (try (have cx9 := blk_cell hx9; have fx9 := blk_free hx9; have HX9 := hid hx9; clear hx9)); have hb9 : w9.heap[w.heap.size]? = some (.cells #[.int .i64 0, .int .i64 0, .slice none 0 0, .slice none 0 0, .slice none 0 0] 27 (0, 0)) := hk9.heap (by first | exact HB8.out | exact blk_alloc HB8.out _) (show w.heap.size ≠ q by omega); have kw9 : Kp (fun k => k ≠ q) w w9 := (by first | exact KW8.out.trans hk9 | exact (KW8.out.alloc _).trans hk9); have HB9 := hid hb9; have KW9 := hid kw9; have HR9 := hid hr9; clear hr9 hk9 hb9 kw9) | (go_at_call 125; refine (int_s q s _ (H7.out.all (by first | exact (Kp.refl _ _).drew | exact (Kp.refl _ _).drew.alloc _))).mono ?_; rintro e w8 ⟨rfl, hr8, hk8⟩; have hs8 : q < w8.heap.size := (by have := hk8.size; simp at this; omega); (first | (have hx8 : w8.heap[W7.heap.size]? = some (.cells #[.int .i64 0, .int .i64 0, .slice none 0 0, .slice none 0 0, .slice none 0 0] 27 (0, 0)) := hk8.heap (blk_new W7.drew (.cells #[.int .i64 0, .int .i64 0, .slice none 0 0, .slice none 0 0, .slice none 0 0] 27)) (show W7.drew.heap.size ≠ q by exact Nat.ne_of_gt (Nat.lt_trans hq hs7)); have HX8 := hid hx8; clear hx8) | skip); have hb8 : w8.heap[w.heap.size]? = some (.cells #[.int .i64 0, .int .i64 0, .slice none 0 0, .slice none 0 0, .slice none 0 0] 27 (0, 0)) := hk8.heap (by first | exact B7.out | exact blk_alloc B7.out _) (show w.heap.size ≠ q by omega); have kw8 : Kp (fun k => k ≠ q) w w8 := (by first | exact K7.out.drew.trans hk8 | exact (K7.out.drew.alloc _).trans hk8); have HB8 := hid hb8; have KW8 := hid kw8; have HR8 := hid hr8; clear hr8 hk8 hb8 kw8))
    · go_wp2_with fail
      go_meet
      have hs9 : w.heap.size < w9.heap.size := blk_lt HB9.out
      have hs8' : w.heap.size < w8.heap.size := blk_lt HB8.out
      exact ⟨w9.heap.size, rfl, hs9, hid (blk_new w9 _), hid (blk_alloc HB9.out _), hid (HR9.out.all (Kp.al _ _)), hid (KW9.out.alloc _)⟩
    · go_wp2_with fail
      go_meet
      have hs9 : w.heap.size < w9.heap.size := blk_lt HB9.out
      have hs8' : w.heap.size < w8.heap.size := blk_lt HB8.out
      exact ⟨w8.heap.size, rfl, hs8', hid (set5 HX9.out), hid (far5 HB9.out (by omega)), hid (HR9.out.kept kp5 (fun i hi => by omega)), hid (KW9.out.then kp5 (fun i hi _ e => by omega))⟩
    · go_wp2_with fail
      go_meet
      have hs9 : w.heap.size < w9.heap.size := blk_lt HB9.out
      have hs8' : w.heap.size < w8.heap.size := blk_lt HB8.out
      exact ⟨W7.heap.size, rfl, hs7, hid (set5 HX9.out), hid (far5 HB9.out (by omega)), hid (HR9.out.kept kp5 (fun i hi => by omega)), hid (KW9.out.then kp5 (fun i hi _ e => by omega))⟩
  case rest =>
    obtain ⟨g, rfl, hg, hx, hb, hr, hk⟩ := hcut
    clear B7 H7 K7 hs7
    go_wp2_with fail
    refine (conf_any q _ _ hr.out).mono ?_
    obtain ⟨V, hV⟩ : ∃ V, (listP (nX (nX s))).1 = V := ⟨_, rfl⟩
    obtain ⟨L, hL⟩ : ∃ L, (listP (listP (nX (nX s))).2).1 = L := ⟨_, rfl⟩
    obtain ⟨s3, hs3⟩ : ∃ s3, (listP (listP (nX (nX s))).2).2 = s3 := ⟨_, rfl⟩
    have HV := hid hV; have HL := hid hL; have HS3 := hid hs3
    unfold ConfR
    rw [hV, hL, hs3]
    rintro e w1 ⟨VA, vc, LA, lc, rfl, ho1, ho2, hr1, hk1⟩
    obtain ⟨vn, hvn⟩ : ∃ vn, V.length = vn := ⟨_, rfl⟩
    obtain ⟨ln, hln⟩ : ∃ ln, L.length = ln := ⟨_, rfl⟩
    have HVN := hid hvn; have HLN := hid hln
    rw [hvn] at ho1
    rw [hln] at ho2
    rw [hvn, hln]
    have hwcs : w.heap.size ≤ wc.heap.size := hk.out.size
    have hgq : g ≠ q := by omega
    have hwq : w.heap.size ≠ q := by omega
    have hx1 := hk1.heap hx.out hgq
    have hb1 := hk1.heap hb.out hwq
    have cx1 := blk_cell hx1; have fx1 := blk_free hx1
    have HX1 := hid hx1; have HB1 := hid hb1; have HO1 := hid ho1; have HO2 := hid ho2; have HR1 := hid hr1; have HK1 := hid (hk.out.trans hk1)
    clear hV hL hs3 hvn hln ho1 ho2 hr1 hk1 hx1 hb1 hx hb hr hk
    go_wp2_with fail
    obtain ⟨w2, hw2⟩ : ∃ w2, w2 = (w1.setCell ⟨g, 2, none⟩ (.slice VA vn vc)).setCell ⟨g, 3, none⟩ (.slice LA ln lc) := ⟨_, rfl⟩
    have k2 : Kp (fun i => i ≠ g) w1 w2 := by rw [hw2]; exact ((Kp.refl _ _).setOut (fun h => h rfl) _).setOut (fun h => h rfl) _
    have hx2 : w2.heap[g]? = some (.cells #[.int .i64 (iV s), .int .i64 (iV (nX s)), .slice VA vn vc, .slice LA ln lc, .slice none 0 0] 27 (0, 0)) := by rw [hw2, blk_set (blk_set HX1.out 2 _) 3 _]; rfl
    have hne1 := own_ne HO1.out HX1.out (by decide); have hne2 := own_ne HO2.out HX1.out (by decide)
    have HX2 := hid hx2; have HB2 := hid (k2.heap HB1.out (by omega)); have HO1' := hid (own_kept HO1.out k2 hne1); have HO2' := hid (own_kept HO2.out k2 hne2)
    have HR2 := hid (HR1.out.kept k2 (fun i hi => by omega)); have HK2 := hid (HK1.out.then k2 (fun i hi _ e => by omega))
    rw [← hw2]
    clear cx1 fx1 hw2 k2 hx2 hne1 hne2
    refine (text_s q s3 _ HR2.out).mono ?_
    rintro e w3 ⟨rfl, hr3, hk3⟩
    obtain ⟨tx, htx⟩ : ∃ tx, tV s3 = tx := ⟨_, rfl⟩
    have HTX := hid htx
    rw [htx]
    obtain ⟨dc, w4, hcv, hrb, k34⟩ := conv_bytes tx w3
    have ho1' := own_kept HO1'.out hk3 (fun i hi e => by have := (HO1.out.lt i hi).1; omega)
    have ho2' := own_kept HO2'.out hk3 (fun i hi e => by have := (HO2.out.lt i hi).1; omega)
    have hx3 := hk3.heap HX2.out hgq
    have hb3 := hk3.heap HB2.out hwq
    have hg3 : g < w3.heap.size := blk_lt hx3
    have hw3 : w.heap.size < w3.heap.size := blk_lt hb3
    have hx4 := k34.heap hx3 trivial
    have hb4 := k34.heap hb3 trivial
    have cx4 := blk_cell hx4; have fx4 := blk_free hx4; have cb4 := blk_cell hb4; have fb4 := blk_free hb4
    have HX4 := hid hx4; have HB4 := hid hb4; have HO14 := hid (own_kept ho1' k34 (fun _ _ => trivial)); have HO24 := hid (own_kept ho2' k34 (fun _ _ => trivial)); have HR4 := hid (hr3.all k34); have HK4 := hid ((HK2.out.trans hk3).trans k34.all); have HD4 := hid hrb
    obtain ⟨dn, hdn⟩ : ∃ dn, tx.size = dn := ⟨_, rfl⟩
    have HDN := hid hdn
    rw [hdn] at hcv HD4
    clear ho1' ho2' hx3 hb3 hx4 hb4 hr3 hk3 k34 hrb htx hdn HX2 HB2 HX1 HB1
    go_wp2_with fail
    refine bodyPost_ret (v := .agg #[.int .i64 (iV s), .int .i64 (iV (nX s)), .slice VA vn vc, .slice LA ln lc, .slice (some ⟨w3.heap.size, 0, none⟩) dn dc]) (by simp [results, Tryz.results85, go_sem, cb4]) rfl ?_
    obtain ⟨wF, hwF⟩ : ∃ wF, wF = (((((w4.setCell ⟨g, 4, none⟩ (.slice (some ⟨w3.heap.size, 0, none⟩) dn dc)).setCell ⟨w.heap.size, 0, none⟩ (.int .i64 (iV s))).setCell ⟨w.heap.size, 1, none⟩ (.int .i64 (iV (nX s)))).setCell ⟨w.heap.size, 2, none⟩ (.slice VA vn vc)).setCell ⟨w.heap.size, 3, none⟩ (.slice LA ln lc)).setCell ⟨w.heap.size, 4, none⟩ (.slice (some ⟨w3.heap.size, 0, none⟩) dn dc) := ⟨_, rfl⟩
    have kF : Kp (fun i => i ≠ g ∧ i ≠ w.heap.size) w4 wF := by
      rw [hwF]
      exact ((((((Kp.refl _ _).setOut (fun h => h.1 rfl) _).setOut (fun h => h.2 rfl) _).setOut (fun h => h.2 rfl) _).setOut (fun h => h.2 rfl) _).setOut (fun h => h.2 rfl) _).setOut (fun h => h.2 rfl) _
    rw [← hwF]
    have hsn : snapR s = (⟨iV s, iV (nX s), V, L, tx.data.toList⟩, tX s3) := by unfold snapR; rw [HV.out, HL.out, HS3.out, HTX.out]
    have htl : tx.data.toList.length = dn := by rw [Array.length_toList]; exact HDN.out
    have hint := snapR_int s
    have hn1 := own_ne HO14.out HX4.out (by decide); have hn2 := own_ne HO24.out HX4.out (by decide); have hm1 := own_ne HO14.out HB4.out (by decide); have hm2 := own_ne HO24.out HB4.out (by decide)
    unfold SnapRd
    rw [hsn] at hint ⊢
    dsimp only at hint ⊢
    rw [HVN.out, HLN.out, htl]
    refine ⟨VA, LA, some ⟨w3.heap.size, 0, none⟩, vc, lc, dc, rfl, ⟨own_ints (own_kept HO14.out kF fun i hi => ⟨hn1 i hi, hm1 i hi⟩) (by omega), own_ints (own_kept HO24.out kF fun i hi => ⟨hn2 i hi, hm2 i hi⟩) (by omega), HVN.out, HLN.out, ?_, htl, hint⟩, HR4.out.kept kF (fun i hi => ⟨by omega, by omega⟩), HK4.out.then kF fun i hi _ => ⟨by omega, by omega⟩⟩
    intro u hu
    obtain ⟨A', c', e, h⟩ := HD4.out u ((kF.mono (T := fun i => i = w3.heap.size) (fun i _ hi => ⟨by omega, by omega⟩)).trans (hu.mono (fun i _ hi => by show q < i; omega)))
    injection e with e1 e2 e3
    subst e1 e3
    rw [htl] at h
    exact h
end Go.Proofs.YtbkhademplgicaaGreatDoor

namespace Go.Proofs.YtbkhademplgicaaGreatDoor
open Go.RowKit
set_option linter.unusedVariables false
set_option linter.unusedSimpArgs false
set_option maxRecDepth 100000 in
set_option maxHeartbeats 2000000 in
theorem told_any (q : Nat) (s : Sx) (x : Sn) (VA LA DA : Option Addr) (vn vc ln lc dn dc : Nat) (m : Bool) (w : World) (h : Rs q s w) :
    Calls Tryz.prog 86 #[.pointer (some ⟨q, 0, none⟩), .agg #[.int .i64 x.index, .int .i64 x.term, .slice VA vn vc, .slice LA ln lc, .slice DA dn dc], .bool m] w fun e w' => e = .returned (if (endP s && m) = true then .tuple #[.agg #[.int .i64 x.index, .int .i64 x.term, .slice VA vn vc, .slice LA ln lc, .slice DA dn dc], .int .i64 0] else .tuple #[.agg #[.int .i64 0, .int .i64 0, .slice none 0 0, .slice none 0 0, .slice none 0 0], .int .i64 8]) ∧ Kp All w w' := by
  have hk : Kp All w ((w.alloc (Obj.cells #[.int .i64 x.index, .int .i64 x.term, .slice VA vn vc, .slice LA ln lc, .slice DA dn dc] 27)).alloc (Obj.cells #[.int .i64 0, .int .i64 0, .slice none 0 0, .slice none 0 0, .slice none 0 0] 27)) := (Kp.al _ _).alloc _
  have H := hid (h.all hk)
  have hb1 := blk_alloc (blk_new w (Obj.cells #[.int .i64 x.index, .int .i64 x.term, .slice VA vn vc, .slice LA ln lc, .slice DA dn dc] 27)) (Obj.cells #[.int .i64 0, .int .i64 0, .slice none 0 0, .slice none 0 0, .slice none 0 0] 27)
  have hb2 := blk_new (w.alloc (Obj.cells #[.int .i64 x.index, .int .i64 x.term, .slice VA vn vc, .slice LA ln lc, .slice DA dn dc] 27)) (Obj.cells #[.int .i64 0, .int .i64 0, .slice none 0 0, .slice none 0 0, .slice none 0 0] 27)
  rw [World.size_alloc] at hb2
  have c1 := blk_cell hb1; have c2 := blk_cell hb2; have f2 := blk_free hb2
  have HK := hid hk
  clear h hk hb1 hb2
  obtain ⟨xs, b⟩ := s
  obtain ⟨en, hen⟩ : ∃ en, endP (xs, b) = en := ⟨_, rfl⟩
  have HEN := hid (show (!b && xs.length == 0) = en from hen)
  rw [hen]
  clear hen
  cases en with
  | false =>
    go_enter Tryz.func86, Tryz.ntmps86
    go_wp2_with fail
    refine (rend_any q xs b _ H.out).mono ?_
    rw [HEN.out]
    rintro e w1 ⟨rfl, rfl⟩
    go_wp2_with fail
    refine bodyPost_ret (v := .tuple #[.agg #[.int .i64 0, .int .i64 0, .slice none 0 0, .slice none 0 0, .slice none 0 0], .int .i64 8]) (by simp [results, Tryz.results86, go_sem, c2]) rfl ⟨rfl, ?_⟩
    exact HK.out.alloc _
  | true =>
    cases m with
    | false =>
      go_enter Tryz.func86, Tryz.ntmps86
      go_wp2_with fail
      refine (rend_any q xs b _ H.out).mono ?_
      rw [HEN.out]
      rintro e w1 ⟨rfl, rfl⟩
      go_wp2_with fail
      refine bodyPost_ret (v := .tuple #[.agg #[.int .i64 0, .int .i64 0, .slice none 0 0, .slice none 0 0, .slice none 0 0], .int .i64 8]) (by simp [results, Tryz.results86, go_sem, c2]) rfl ⟨rfl, ?_⟩
      exact HK.out.alloc _
    | true =>
      go_enter Tryz.func86, Tryz.ntmps86
      go_wp2_with fail
      refine (rend_any q xs b _ H.out).mono ?_
      rw [HEN.out]
      rintro e w1 ⟨rfl, rfl⟩
      go_wp2_with fail
      refine bodyPost_ret (v := .tuple #[.agg #[.int .i64 x.index, .int .i64 x.term, .slice VA vn vc, .slice LA ln lc, .slice DA dn dc], .int .i64 0]) (by simp [results, Tryz.results86, go_sem, c2]) rfl ⟨rfl, ?_⟩
      first | exact (Kp.al _ _).alloc _ | trace_state
set_option maxRecDepth 100000 in
theorem over_any (A : Option Addr) (n c : Nat) (w : World) :
    Calls Tryz.prog 84 #[.slice A n c] w fun e w' => e = .returned (.pointer (some ⟨w.heap.size, 0, none⟩)) ∧ w' = w.alloc (.cells #[.slice A n c, .bool false] 146) := by
  go_enter Tryz.func84, Tryz.ntmps84
  go_wp2_with fail
  go_ret
  exact ⟨rfl, rfl⟩
def ReadS (xs : By) (w : World) (e : Ending) (w' : World) : Prop := Kp All w w' ∧ match readSnapP xs with
  | some x => ∃ VA LA DA vc lc dc, e = .returned (.tuple #[.agg #[.int .i64 x.index, .int .i64 x.term, .slice VA x.V.length vc, .slice LA x.L.length lc, .slice DA x.data.length dc], .int .i64 0]) ∧ SnpS (fun i => w.heap.size < i) x VA LA DA x.V.length vc x.L.length lc x.data.length dc w'
  | none => e = .returned (.tuple #[.agg #[.int .i64 0, .int .i64 0, .slice none 0 0, .slice none 0 0, .slice none 0 0], .int .i64 8])
set_option maxRecDepth 100000 in
set_option maxHeartbeats 400000 in
theorem readsnap_any (A : Option Addr) (n c : Nat) (xs : By) (hn : xs.length = n) (hl : n ≤ 1000000000000) (w : World) (h : Foot All (Sl A n c 1 (u8s xs)) w) :
    Calls Tryz.prog 40 #[.slice A n c] w (ReadS xs w) := by
  have H := hid h; have HN := hid hn
  clear h hn
  go_enter Tryz.func40, Tryz.ntmps40
  go_wp2_with fail
  refine (over_any A n c _).mono ?_
  rintro e w1 ⟨rfl, hw1⟩
  rw [World.size_alloc] at *
  have hk1 : Kp All w w1 := by rw [hw1]; exact (Kp.al _ _).alloc _
  have hr1 : Rs (w.heap.size + 1) (xs, false) w1 := by
    refine ⟨.slice A n c, 146, ?_, fun u hu => ?_, by dsimp only; rw [HN.out]; omega⟩
    · rw [hw1]
      have := blk_new (w.alloc (Obj.cells #[.int .i64 0, .int .i64 0, .slice none 0 0, .slice none 0 0, .slice none 0 0] 27)) (.cells #[.slice A n c, .bool false] 146)
      rwa [World.size_alloc] at this
    · refine ⟨A, c, by rw [HN.out], ?_⟩
      rw [HN.out]
      exact H.out u (hk1.then hu (fun i hi _ => by show i < w.heap.size + 1; omega))
  have hb1 : w1.heap[w.heap.size]? = some (Obj.cells #[.int .i64 0, .int .i64 0, .slice none 0 0, .slice none 0 0, .slice none 0 0] 27) := by
    rw [hw1]; exact blk_alloc (blk_new w _) _
  have HK1 := hid hk1; have HR1 := hid hr1; have HB1 := hid hb1
  clear hw1 hk1 hr1 hb1
  go_wp2_with fail
  refine (snapr_any _ _ _ HR1.out).mono ?_
  rintro e w2 ⟨VA, LA, DA, vc, lc, dc, rfl, hs2, hr2, hk2⟩
  obtain ⟨x, hx⟩ : ∃ x, (snapR (xs, false)).1 = x := ⟨_, rfl⟩
  obtain ⟨s2, hs⟩ : ∃ s2, (snapR (xs, false)).2 = s2 := ⟨_, rfl⟩
  rw [hx] at hs2 ⊢
  rw [hs] at hr2
  obtain ⟨vn, hvn⟩ : ∃ vn, x.V.length = vn := ⟨_, rfl⟩
  obtain ⟨ln, hln⟩ : ∃ ln, x.L.length = ln := ⟨_, rfl⟩
  obtain ⟨dn, hdn⟩ : ∃ dn, x.data.length = dn := ⟨_, rfl⟩
  rw [hvn, hln, hdn] at hs2 ⊢
  have hxi : (snapR (xs, false)).1.index = x.index := by rw [hx]
  have hb2 := hk2.heap HB1.out (show w.heap.size ≠ w.heap.size + 1 by omega)
  have HX := hid hx; have HS := hid hs; have HVN := hid hvn; have HLN := hid hln; have HDN := hid hdn; have HS2 := hid hs2; have HR2 := hid hr2
  have HK2 := hid (HK1.out.then hk2 (fun i hi _ => by show i ≠ w.heap.size + 1; omega)); have HB2 := hid hb2
  clear hx hs hvn hln hdn hs2 hr2 hk2 hb2 hxi HK1 HR1 HB1
  have HL1 : Hid (vn ≤ 9000000000000000000) := hid (by have := listP_len (nX (nX (xs, false))); have h := HVN.out; rw [← HX.out] at h; have h2 : (snapR (xs, false)).1.V.length = (listP (nX (nX (xs, false)))).1.length := rfl; omega)
  have HL2 : Hid (ln ≤ 9000000000000000000) := hid (by have := listP_len (listP (nX (nX (xs, false)))).2; have h := HLN.out; rw [← HX.out] at h; have h2 : (snapR (xs, false)).1.L.length = (listP (listP (nX (nX (xs, false)))).2).1.length := rfl; omega)
  obtain ⟨bb, hbb⟩ : ∃ bb, (endP s2 && goodSnap x) = bb := ⟨_, rfl⟩
  have HBB := hid hbb
  have HRS := hid (show readSnapP xs = if bb = true then some x else none by rw [readSnapP, HS.out, HX.out, hbb])
  clear hbb
  go_wp2_with fail
  have b7 := blk_new w2 (Obj.cells #[.int .i64 x.index, .int .i64 x.term, .slice VA vn vc, .slice LA ln lc, .slice DA dn dc] 27)
  have k27 : Kp All w2 (w2.alloc (Obj.cells #[.int .i64 x.index, .int .i64 x.term, .slice VA vn vc, .slice LA ln lc, .slice DA dn dc] 27)).drew := (Kp.al _ _).drew
  have k7 : Kp All w (w2.alloc (Obj.cells #[.int .i64 x.index, .int .i64 x.term, .slice VA vn vc, .slice LA ln lc, .slice DA dn dc] 27)).drew := (HK2.out.alloc _).drew
  have HS7 := hid (HS2.out.snp.step ((Kp.al w2 (Obj.cells #[.int .i64 x.index, .int .i64 x.term, .slice VA vn vc, .slice LA ln lc, .slice DA dn dc] 27)).drew)); have HR7 := hid (HR2.out.all ((Kp.al w2 (Obj.cells #[.int .i64 x.index, .int .i64 x.term, .slice VA vn vc, .slice LA ln lc, .slice DA dn dc] 27)).drew)); have HB7 := hid (blk_alloc HB2.out (Obj.cells #[.int .i64 x.index, .int .i64 x.term, .slice VA vn vc, .slice LA ln lc, .slice DA dn dc] 27))
  obtain ⟨W7, hW7⟩ : ∃ W7, W7 = w2.alloc (Obj.cells #[.int .i64 x.index, .int .i64 x.term, .slice VA vn vc, .slice LA ln lc, .slice DA dn dc] 27) := ⟨_, rfl⟩
  rw [← hW7] at b7 k7 k27 HS7 HR7 HB7 ⊢
  have c7 := blk_cell b7
  have B7 := hid b7; have K7 := hid k7; have K27 := hid k27
  have hws : w.heap.size < w2.heap.size := blk_lt HB2.out
  have HNE := hid (show w2.heap.size ≠ w.heap.size by omega)
  clear b7 hW7 k7 k27
  cases bb with
  | false =>
    go_region_held3 (fun w' => ∀ i, w'.cell? ⟨w2.heap.size, i, none⟩ = (#[.int .i64 x.index, .int .i64 x.term, .slice VA vn vc, .slice LA ln lc, .slice DA dn dc] : Array Value)[i]?) (first | with_reducible exact blk_cell (far5 BX9.out HNE.out) | with_reducible exact blk_cell BX9.out | with_reducible exact blk_cell BX8.out | assumption) (first | (go_at_call 86; have h8 := HR8.out; clear h8; refine (told_any (w.heap.size + 1) s2 x VA LA DA vn vc ln lc dn dc (goodSnap x) _ HR8.out).mono ?_; rw [HBB.out, if_neg (by simp)]; rintro e w9 ⟨rfl, hk9⟩; have BX9 := hid (hk9.heap BX8.out trivial); have HB9 := hid (hk9.heap HB8.out trivial); have cb9 := blk_cell HB9.out; have fb9 := blk_free HB9.out; have HK9 := hid (HK8.out.trans hk9); have HK29 := hid (HK28.out.trans hk9); clear hk9) | (go_at_call 31; refine (goodsnap_any x VA LA DA vn vc ln lc dn dc HL1.out HL2.out _ HS7.out).mono ?_; rintro e w8 ⟨rfl, hk8⟩; have BX8 := hid (hk8.heap B7.out trivial); have HB8 := hid (hk8.heap HB7.out trivial); have HK8 := hid (K7.out.trans hk8); have HK28 := hid (K27.out.trans hk8); have HR8 := hid (HR7.out.all hk8); clear hk8))
    have kF : Kp All w _ := HK9.out.then (kp5 (w := w9) (b := w.heap.size) (v0 := .int .i64 0) (v1 := .int .i64 0) (v2 := .slice none 0 0) (v3 := .slice none 0 0) (v4 := .slice none 0 0)) (fun i hi _ e => by omega)
    have cF := blk_cell (set5 (v0 := .int .i64 0) (v1 := .int .i64 0) (v2 := .slice none 0 0) (v3 := .slice none 0 0) (v4 := .slice none 0 0) HB9.out)
    go_wp2_with fail
    refine bodyPost_ret (v := .tuple #[.agg #[.int .i64 0, .int .i64 0, .slice none 0 0, .slice none 0 0, .slice none 0 0], .int .i64 8]) (by simp [results, Tryz.results40, go_sem, cF]) rfl ⟨kF, ?_⟩
    rw [HRS.out, if_neg (by simp)]
  | true =>
    go_region_held3 (fun w' => ∀ i, w'.cell? ⟨w2.heap.size, i, none⟩ = (#[.int .i64 x.index, .int .i64 x.term, .slice VA vn vc, .slice LA ln lc, .slice DA dn dc] : Array Value)[i]?) (first | with_reducible exact blk_cell (far5 BX9.out HNE.out) | with_reducible exact blk_cell BX9.out | with_reducible exact blk_cell BX8.out | assumption) (first | (go_at_call 86; have h8 := HR8.out; clear h8; refine (told_any (w.heap.size + 1) s2 x VA LA DA vn vc ln lc dn dc (goodSnap x) _ HR8.out).mono ?_; rw [HBB.out, if_pos rfl]; rintro e w9 ⟨rfl, hk9⟩; have BX9 := hid (hk9.heap BX8.out trivial); have HB9 := hid (hk9.heap HB8.out trivial); have cb9 := blk_cell HB9.out; have fb9 := blk_free HB9.out; have HK9 := hid (HK8.out.trans hk9); have HK29 := hid (HK28.out.trans hk9); clear hk9) | (go_at_call 31; refine (goodsnap_any x VA LA DA vn vc ln lc dn dc HL1.out HL2.out _ HS7.out).mono ?_; rintro e w8 ⟨rfl, hk8⟩; have BX8 := hid (hk8.heap B7.out trivial); have HB8 := hid (hk8.heap HB7.out trivial); have HK8 := hid (K7.out.trans hk8); have HK28 := hid (K27.out.trans hk8); have HR8 := hid (HR7.out.all hk8); clear hk8))
    have kF : Kp All w _ := HK9.out.then (kp5 (w := w9) (b := w.heap.size) (v0 := .int .i64 x.index) (v1 := .int .i64 x.term) (v2 := .slice VA vn vc) (v3 := .slice LA ln lc) (v4 := .slice DA dn dc)) (fun i hi _ e => by omega)
    have cF := blk_cell (set5 (v0 := .int .i64 x.index) (v1 := .int .i64 x.term) (v2 := .slice VA vn vc) (v3 := .slice LA ln lc) (v4 := .slice DA dn dc) HB9.out)
    go_wp2_with fail
    refine bodyPost_ret (v := .tuple #[.agg #[.int .i64 x.index, .int .i64 x.term, .slice VA vn vc, .slice LA ln lc, .slice DA dn dc], .int .i64 0]) (by simp [results, Tryz.results40, go_sem, cF]) rfl ⟨kF, ?_⟩
    rw [HRS.out]
    simp only [if_true]
    rw [HVN.out, HLN.out, HDN.out]
    refine ⟨VA, LA, DA, vc, lc, dc, rfl, ?_⟩
    have h9 := HS2.out.step (HK29.out.all)
    exact (h9.mono (T := fun i => w.heap.size < i) (fun i hi => by show w.heap.size < i; omega)).step ((kp5 (w := w9) (b := w.heap.size)).mono fun i _ hi => by show i ≠ w.heap.size; omega)
end Go.Proofs.YtbkhademplgicaaGreatDoor
