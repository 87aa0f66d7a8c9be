/- image.Import walked, on any bytes. No condition but that the bytes are not too many, and where the library's variable lies. -/
import Derived.Test.YtodledidabdkaaaGreatDoorM9
import Derived.Test.YtodledidabdkaaaGreatDoorM13
import Derived.Test.YtodledidabdkaaaGreatDoorM7
namespace Go.Proofs.YtodledidabdkaaaGreatDoor
open Go.RowKit Go.Shelf Go.Sort V
set_option linter.unusedVariables false
set_option linter.unusedSimpArgs false
theorem elP : El Tryz.prog 25 35 2 32 (.agg #[.string ⟨#[]⟩, .string ⟨#[]⟩]) := ⟨Tryz.underlying25, by kernel_rfl, rfl, by decide, by decide⟩
/-- What Import answers of bytes that tell l, or tell no pairs. -/
def ImpR (k0 k1 : Nat) (r : Option (List Slot)) (w : World) (e : Ending) (w' : World) : Prop := match r with
  | none => e = .returned (.tuple #[.pointer none, .int .i64 8]) ∧ Kp All w w'
  | some l => ∃ bm k, k ≤ 10 ∧ e = .returned (.tuple #[.pointer (some ⟨bm, 0, none⟩), .int .i64 0]) ∧ Nm k0 k1 w bm (putsP (sipP k0 k1) (madeP (2 ^ k)) l) w'
theorem own_ne2 {w : World} {base e sz n b : Nat} {v : Value} {xs : List Value} {cs : Array Value} {t : TypeId} {fz : Nat × Nat} (h : w.ownsRow base e sz v n xs) (hb : w.heap[b]? = some (.cells cs t fz)) (ht : t ≠ e) : ∀ i, v.ownBlock = some i → i ≠ b := by
  intro i hi he
  subst he
  rcases own_at h with ⟨rfl, _⟩ | ⟨g, cap, cur, rfl, hg, _⟩
  · cases hi
  · injection hi with hi
    simp only at hi
    subst hi
    rw [hb] at hg
    injection hg with hg
    injection hg with _ hg
    exact ht hg
set_option maxRecDepth 100000 in
set_option maxHeartbeats 4000000 in
theorem iimport_any (k0 k1 : Nat) (h0 : k0 < 18446744073709551616) (h1 : k1 < 18446744073709551616) (A : Option Addr) (n c : Nat) (xs : By) (hn : xs.length = n) (hxl : n ≤ 9000000000000000000) (w : World) (hgs : Gs w) (h : Foot All (Sl A n c 1 (u8s xs)) w) :
    Calls Tryz.prog 22 #[.slice A n c, .agg #[.int .u64 k0, .int .u64 k1]] w (ImpR k0 k1 (readImg xs) w) := by
  have hmf : ∀ (fn : Fn) (first cap : Array Value) (w : World), (Instr.makeFunc fn first cap).run Tryz.prog w = .ok (.func fn first cap) w := fun _ _ _ _ => rfl
  obtain ⟨W1, hW1⟩ : ∃ W1, (w.alloc (.cells #[.int .u64 k0, .int .u64 k1] 24)).alloc (.cells #[.slice A n c, .bool false] 96) = W1 := ⟨_, rfl⟩
  have k1' : Kp All w W1 := hW1 ▸ (Kp.al _ _).alloc _
  have bk := blk_alloc (blk_new w (.cells #[.int .u64 k0, .int .u64 k1] 24)) (.cells #[.slice A n c, .bool false] 96)
  have bq := blk_new (w.alloc (.cells #[.int .u64 k0, .int .u64 k1] 24)) (.cells #[.slice A n c, .bool false] 96)
  rw [World.size_alloc] at bq
  rw [hW1] at bk bq
  have hz1 : W1.heap.size = w.heap.size + 2 := by rw [← hW1]; simp
  have hrg : Rs (w.heap.size + 1) (xs, false) W1 := by
    refine ⟨_, _, bq, ?_, by dsimp only; omega⟩
    have : Foot (fun k => k < w.heap.size + 1) (Rb (.slice A n c) xs) w := fun u hu => by
      have := (h.mono (T := fun k => k < w.heap.size + 1) (fun k hk _ => by omega)) u hu
      exact ⟨A, c, by rw [hn], by rw [hn]; exact this⟩
    exact this.step (k1'.mono fun _ _ _ => trivial)
  obtain ⟨q, hq⟩ : ∃ q, w.heap.size + 1 = q := ⟨_, rfl⟩
  have HB := hid bk; have HR := hid hrg; have HK1 := hid k1'; have HG := hid hgs; have HZ := hid hz1
  clear bk bq hrg k1' hgs h
  obtain ⟨m0, hm0⟩ : ∃ m0, (cntX xs false 2000).1 = m0 := ⟨_, rfl⟩
  obtain ⟨s0, hs0⟩ : ∃ s0, (cntX xs false 2000).2 = s0 := ⟨_, rfl⟩
  have hm9 : m0 ≤ 2000 := by rw [← hm0]; exact cX_cnt _ _
  have hs9 : s0.1.length ≤ n := by rw [← hs0, ← hn]; exact cX_le _ _
  have hrd : Hid (readImg xs = finI (imgGo m0 s0 [])) := hid (by rw [readImg, hm0, hs0])
  obtain ⟨RI, hRI⟩ : ∃ RI, readImg xs = RI := ⟨_, rfl⟩
  rw [hRI] at hrd ⊢
  have HM0 := hid hm0; have HS0 := hid hs0
  clear hm0 hs0 hRI
  go_enter Tryz.func22, Tryz.ntmps22
  rw [hq] at HR
  go_wp2_with fail
  refine (rcount_any q xs false 2000 (by omega) _ HR.out).mono ?_
  rw [HM0.out, HS0.out]
  rintro e w2 ⟨rfl, hr2, hk2⟩
  have HR2 := hid (show Rs q s0 w2 from hr2)
  have HK2 := hid hk2
  clear hr2 hk2
  go_wp2_with fail
  go_loopw [8, 9] (fun x i wr => ∃ (m : Nat) (t : Sx) (acc : List Slot), i = .int .i64 m ∧ acc.length + m ≤ 2000 ∧ t.1.length ≤ n ∧ Hid (∀ x ∈ acc, x.1.size ≤ 9000000000000000000) ∧ Hid (imgGo m t acc = imgGo m0 s0 []) ∧ Hid (Rs q t wr) ∧ Hid (wr.ownsRow W1.heap.size 35 2 x acc.length (scs acc)) ∧ Hid (Kp (fun k => k ≠ q) W1 wr)) (fun _ i _ => (ivl i).toNat)
  case atStart => exact ⟨m0, s0, [], rfl, by simpa using hm9, hs9, hid (fun x hx => by cases hx), hid rfl, HR2, hid (World.ownsRow_nil _ _ _ _), HK2⟩
  case round =>
    obtain ⟨m, t, acc, rfl, hacc, htl, hsz, hit, hrs, hown, hkp⟩ := hrel
    obtain ⟨A3, c3, rfl⟩ := own_shape hown.out
    obtain ⟨al, hal⟩ : ∃ al, acc.length = al := ⟨_, rfl⟩
    have HAL := hid hal
    have ho := hown.out
    rw [hal] at ho hacc ⊢
    have HOW0 := hid ho
    clear hal ho
    match m, hacc, hit with
    | 0, hacc, hit =>
      have d0 : decide ((0 : Int) < ((0 : Nat) : Int)) = false := by decide
      have he := hit.out
      rw [imgGo] at he
      have hri : RI = if endP t = true then some acc else none := by rw [hrd.out, ← he]; rfl
      have hqs : w.heap.size ≠ q := by omega
      cases hen : endP t with
      | false =>
        rw [hen, if_neg (by simp)] at hri
        subst hri
        have HE := hid (show (!t.2 && t.1.length == 0) = false from hen)
        clear hen he
        obtain ⟨vq, tyq, hcq, hfq, hlq⟩ := hrs.out
        have cq := blk_cell hcq
        clear hcq hfq hlq
        go_wp2_with fail
        refine (rend_any q t.1 t.2 _ hrs.out).mono ?_
        rw [HE.out]
        rintro e w3 ⟨rfl, hw⟩
        subst hw
        go_wp2_with fail
        refine bodyPost_ret (v := .tuple #[.pointer none, .int .i64 8]) (by simp [results, Tryz.results22, go_sem]) rfl ⟨rfl, ?_⟩
        exact HK1.out.then hkp.out (fun i hi _ => by omega)
      | true =>
        rw [hen, if_pos rfl] at hri
        subst hri
        have HE := hid (show (!t.2 && t.1.length == 0) = true from hen)
        clear hen he
        have hKw : Kp All w wr := HK1.out.then hkp.out (fun i hi _ => by omega)
        have ck := blk_cell (hkp.out.heap HB.out hqs)
        have HKw := hid hKw
        clear hKw
        go_wp2_with fail
        refine (rend_any q t.1 t.2 _ hrs.out).mono ?_
        rw [HE.out]
        rintro e w3 ⟨rfl, hw⟩
        have hw := hw.symm
        subst hw
        go_wp2_with fail
        refine (nm_newg k0 k1 al h0 h1 (by omega) wr wr (Kp.refl _ _) (HG.out.kept HKw.out trivial)).mono ?_
        rintro e w4 ⟨bm, kk, hkk, rfl, hm4, hk4⟩
        have HM4 := hid hm4; have HK4 := hid hk4; have HKK := hid hkk
        have HFT := hid (own_foot2 HOW0.out)
        have HSZ : Hid (∀ x ∈ acc, x.1.size ≤ 9000000000000000000) := hid hsz.out
        clear hm4 hk4 hkk ck
        go_wp2_with fail
        go_loopw [66] (fun i wp => ∃ k : Nat, k ≤ al ∧ i = .int .i64 k ∧ Hid (Nm k0 k1 wr bm (putsP (sipP k0 k1) (madeP (2 ^ kk)) (acc.take k)) wp)) (fun i _ => al - (ivl i).toNat)
        case atStart => exact ⟨0, Nat.zero_le _, rfl, HM4⟩
        case round =>
          rename_i wp _ _
          obtain ⟨k, hk, rfl, hT⟩ := hrel
          by_cases hlt : k < al
          · have hb0 : decide ((k : Int) < (al : Int)) = true := decide_eq_true (by omega)
            obtain ⟨x, hx⟩ : ∃ x, acc[k]? = some x := ⟨_, List.getElem?_eq_getElem (by rw [HAL.out]; exact hlt)⟩
            obtain ⟨x1, x2⟩ := x
            obtain ⟨b, o, rfl, hr⟩ := (HFT.out _ hT.out.old).2.2 (by omega)
            obtain ⟨g1, g2⟩ := scs_get hx
            have p1 := hr _ _ g1
            have p2 := hr _ _ g2
            rw [← Nat.add_assoc] at p2
            dsimp only at p1 p2
            have hb1 := World.block_lt_of_cell? _ _ p1
            have i0 : (0 : Int) ≤ (k : Int) := by omega
            have i1 : (k : Int) < (al : Int) := by omega
            have hkz := HSZ.out (x1, x2) (List.mem_of_getElem? hx)
            dsimp only at hkz
            have HX := hid hx
            clear hx hr g1 g2
            go_wp2_with fail
            refine (nm_put x1 x2 hkz (HG.out.kept HKw.out trivial) (hT.out.kept (Kp.al _ _))).mono ?_
            rintro e w5 ⟨rfl, hm5⟩
            rw [← puts_take HX.out] at hm5
            have HM5 := hid hm5
            clear hm5
            go_wp2_with fail
            exact ⟨⟨k + 1, by omega, by go_num, HM5⟩, by simp [ivl]; omega⟩
          · have hb0 : decide ((k : Int) < (al : Int)) = false := decide_eq_false (by omega)
            obtain rfl : k = al := by omega
            have hT2 := hT.out
            rw [List.take_of_length_le (by rw [HAL.out]; exact Nat.le_refl _)] at hT2
            have HT := hid hT2
            clear hT2
            go_wp2_with fail
            refine bodyPost_ret (v := .tuple #[.pointer (some ⟨bm, 0, none⟩), .int .i64 0]) (by simp [results, Tryz.results22, go_sem]) rfl ⟨bm, kk, HKK.out, rfl, HT.out.base HKw.out⟩
    | m + 1, hacc, hit =>
      have d0 : decide ((0 : Int) < ((m + 1 : Nat) : Int)) = true := decide_eq_true (by omega)
      obtain ⟨ys, b⟩ := t
      obtain ⟨vq, tyq, hcq, hfq, hlq⟩ := hrs.out
      have cq := blk_cell hcq
      clear hcq hfq hlq
      cases b with
      | true =>
        have he := hit.out
        rw [imgGo, if_pos rfl] at he
        have hn : RI = none := by rw [hrd.out, ← he]; rfl
        subst hn
        go_wp2_with fail
        refine (rend_any q ys true _ hrs.out).mono ?_
        rintro e w3 ⟨rfl, hw⟩
        subst hw
        go_wp2_with fail
        refine bodyPost_ret (v := .tuple #[.pointer none, .int .i64 8]) (by simp [results, Tryz.results22, go_sem]) rfl ⟨rfl, ?_⟩
        exact HK1.out.then hkp.out (fun i hi _ => by omega)
      | false =>
        have he := hit.out
        rw [imgGo, if_neg (by simp)] at he
        have HIT := hid he
        clear he hit
        have hkz := tV_size (ys, false)
        have hl1 := tX_le (ys, false)
        have hl2 := tX_le (tX (ys, false))
        dsimp only at hkz hl1 htl
        go_wp2_with fail
        refine (text_s q (ys, false) _ hrs.out).mono ?_
        rintro e w3 ⟨rfl, hr3, hk3⟩
        obtain ⟨kx, hkx⟩ : ∃ kx, tV (ys, false) = kx := ⟨_, rfl⟩
        obtain ⟨s1, hs1⟩ : ∃ s1, tX (ys, false) = s1 := ⟨_, rfl⟩
        simp only [hkx, hs1] at HIT hkz hl1 hl2 hr3 ⊢
        have HR3 := hid hr3; have HK3 := hid hk3
        clear hr3 hk3 hkx hs1 cq
        go_wp2_with fail
        obtain ⟨w4, hw4⟩ : ∃ w4, w3.alloc (.cells #[.string kx, .string ⟨#[]⟩] 35) = w4 := ⟨_, rfl⟩
        have b4 := blk_new w3 (.cells #[.string kx, .string ⟨#[]⟩] 35)
        have k4 : Kp All w3 w4 := hw4 ▸ Kp.al _ _
        rw [hw4] at b4 ⊢
        have hqw : q < wr.heap.size := by have := hkp.out.size; omega
        have hq3 : q < w3.heap.size := Nat.lt_of_lt_of_le hqw HK3.out.size
        have HB4 := hid b4; have HK4 := hid k4
        clear b4 k4 hw4
        refine (text_s q s1 _ (HR3.out.all HK4.out)).mono ?_
        rintro e w5 ⟨rfl, hr5, hk5⟩
        obtain ⟨vx, hvx⟩ : ∃ vx, tV s1 = vx := ⟨_, rfl⟩
        obtain ⟨s2, hs2⟩ : ∃ s2, tX s1 = s2 := ⟨_, rfl⟩
        simp only [hvx, hs2] at HIT hl2 hr5 ⊢
        have b5 := hk5.heap HB4.out (show w3.heap.size ≠ q by omega)
        have c5 := blk_cell b5
        have f5 := blk_free b5
        have K5 : Hid (Kp (fun k => k ≠ q) wr w5) := hid ((HK3.out.trans HK4.out.all).trans hk5)
        have HR5 := hid hr5; have HB5 := hid b5
        clear hr5 hk5 hvx hs2 b5
        go_wp2_with fail
        obtain ⟨U, hU⟩ : ∃ U, w5.setCell ⟨w3.heap.size, 1, none⟩ (.string vx) = U := ⟨_, rfl⟩
        rw [hU]
        have hown5 := own_kept HOW0.out K5.out (fun b hb e => by have := (HOW0.out.lt b hb).1; omega)
        have hlt5 : ∀ b, (Value.slice A3 al c3).ownBlock = some b → b < wr.heap.size := fun b hb => (HOW0.out.lt b hb).2
        have h35 : wr.heap.size ≤ w3.heap.size := HK3.out.size
        have KU : Kp (fun k => k ≠ w3.heap.size) w5 U := hU ▸ (Kp.refl _ w5).setOut (by simp) _
        have HOU : Hid (U.ownsRow W1.heap.size 35 2 (.slice A3 al c3) al (scs acc)) := hid (own_kept hown5 KU (fun b hb => by have := hlt5 b hb; omega))
        have HRU : Hid (Rs q s2 U) := hid (HR5.out.kept KU (fun i hi => by omega))
        have HKU : Hid (Kp (fun k => k ≠ q) W1 U) := hid (by rw [← hU]; exact (hkp.out.trans K5.out).setNew (by have := hkp.out.size; omega) _)
        have cU := blk_cell (show U.heap[w3.heap.size]? = some (.cells #[.string kx, .string vx] 35 (0, 0)) from by rw [← hU]; exact blk_set HB5.out 1 _)
        clear hown5 hlt5 KU hU c5 f5
        by_cases hl : lastK acc kx = true
        · rw [if_pos hl] at HIT
          have hri : RI = none := by rw [hrd.out, ← HIT.out]; rfl
          subst hri
          obtain ⟨p, hp, hcmp⟩ : ∃ p, acc.getLast? = some p ∧ ¬ bl p.1 < bl kx := by
            unfold lastK at hl
            cases hp : acc.getLast? with
            | none => rw [hp] at hl; cases hl
            | some p =>
              rw [hp] at hl
              exact ⟨p, rfl, fun h => by simp [h] at hl⟩
          have hpos : 0 < al := by
            rw [← HAL.out]
            exact List.length_pos_of_mem (List.mem_of_getLast? hp)
          have d1 : decide ((0 : Int) < (al : Int)) = true := decide_eq_true (by omega)
          obtain ⟨a, ha⟩ : ∃ a, a + 1 = al := ⟨al - 1, by omega⟩
          have hp2 : acc[a]? = some p := by
            rw [List.getLast?_eq_getElem?, HAL.out, ← ha] at hp
            simpa using hp
          have hFU := (own_foot2 HOU.out).now.2.2 (by omega)
          obtain ⟨g3, o3, rfl, hr3⟩ := hFU
          obtain ⟨px, pv⟩ := p
          obtain ⟨g1, _⟩ := scs_get hp2
          have p1 := hr3 _ _ g1
          dsimp only at p1 hcmp
          have hsub : IntKind.i64.wrap ((al : Int) - 1) = (a : Int) := by rw [show (al : Int) - 1 = (a : Int) from by omega]; exact IntWalk.i64_in _ (by omega)
          have a0 : (0 : Int) ≤ (a : Int) := by omega
          have a1 : (a : Int) < (al : Int) := by omega
          have hb3 := World.block_lt_of_cell? _ _ p1
          have hcm : Op.bytesLess px.toList kx.toList = false := by rw [lss_tx]; exact decide_eq_false hcmp
          clear hp hp2 g1 hr3 hl
          go_quiet (fail)
          go_wp2_with fail
          refine bodyPost_ret (v := .tuple #[.pointer none, .int .i64 8]) (by simp [results, Tryz.results22, go_sem]) rfl ⟨rfl, ?_⟩
          exact HK1.out.then (HKU.out.drewN _) (fun i hi _ => by omega)
        · rw [if_neg hl] at HIT
          have HIT2 := hid HIT.out
          rcases Nat.eq_zero_or_pos al with hal0 | hal0
          · have d1 : decide ((0 : Int) < (al : Int)) = false := decide_eq_false (by omega)
            go_quiet (fail)
            rename_i nq

            go_wp2_with (at_builtin; go_loud (refine wpList_app elP (World.ownsRow.alloc (own_kept HOU.out ((Kp.refl All U).drewN nq) (fun _ _ => trivial)) _) (sl_new2 rfl (kx, vx) _) (two_one (kx, vx)) ?_ ?_ rfl _ _ rfl rfl rfl ?_); omega; (have := HKU.out.size; simp; omega); intro v' w7 hown7 hg7 hob7 hnil7; obtain ⟨A7, c7, rfl⟩ := own_shape hown7; have HOW7 := hid hown7; have HG7 := hid hg7; clear hown7 hg7 hob7 hnil7)
            have kU7 : Kp (fun i => i ≤ q) U w7 := (((Kp.refl _ U).drewN nq).alloc _).then (Kp.grown HG7.out) (fun i hi hle e => by
              have := (HOU.out.lt i e.symm).1
              omega)
            have k7 : Kp (fun i => i ≠ q) W1 w7 := ((HKU.out.drewN nq).alloc _).then (Kp.grown HG7.out) (fun i hi _ e => by
              have := (HOU.out.lt i e.symm).1
              omega)
            refine ⟨⟨m, s2, acc ++ [(kx, vx)], rfl, by rw [List.length_append, HAL.out, List.length_singleton]; omega, by omega, hid (fun x hx => ?_), HIT2, hid (HRU.out.kept kU7 (fun i hi => hi)), ?_, k7⟩, by simp [ivl]⟩
            · rcases List.mem_append.1 hx with hx | hx
              · exact hsz.out x hx
              · rw [List.mem_singleton] at hx; subst hx; dsimp only; omega
            · refine hid ?_
              have h := HOW7.out
              rw [List.length_append, HAL.out, show scs (acc ++ [(kx, vx)]) = scs acc ++ [.string kx, .string vx] from by simp [scs]]
              first | exact h | (rw [hal0] at h ⊢; exact h)
          · have d1 : decide ((0 : Int) < (al : Int)) = true := decide_eq_true (by omega)
            obtain ⟨p, hp, hcmp⟩ : ∃ p, acc.getLast? = some p ∧ bl p.1 < bl kx := by
              unfold lastK at hl
              cases hp : acc.getLast? with
              | none =>
                rw [List.getLast?_eq_none_iff] at hp
                rw [hp] at HAL
                have := HAL.out
                simp at this
                omega
              | some p =>
                rw [hp] at hl
                exact ⟨p, rfl, Classical.byContradiction fun h => hl (by simp [h])⟩
            obtain ⟨a, ha⟩ : ∃ a, a + 1 = al := ⟨al - 1, by omega⟩
            have hp2 : acc[a]? = some p := by
              rw [List.getLast?_eq_getElem?, HAL.out, ← ha] at hp
              simpa using hp
            have hFU := (own_foot2 HOU.out).now.2.2 (by omega)
            obtain ⟨g3, o3, rfl, hr3⟩ := hFU
            obtain ⟨px, pv⟩ := p
            obtain ⟨g1, _⟩ := scs_get hp2
            have p1 := hr3 _ _ g1
            dsimp only at p1 hcmp
            have hsub : IntKind.i64.wrap ((al : Int) - 1) = (a : Int) := by rw [show (al : Int) - 1 = (a : Int) from by omega]; exact IntWalk.i64_in _ (by omega)
            have a0 : (0 : Int) ≤ (a : Int) := by omega
            have a1 : (a : Int) < (al : Int) := by omega
            have hb3 := World.block_lt_of_cell? _ _ p1
            have hcm : Op.bytesLess px.toList kx.toList = true := by rw [lss_tx]; exact decide_eq_true hcmp
            clear hp hp2 g1 hr3 hl
            go_quiet (fail)
            rename_i nq

            go_wp2_with (at_builtin; go_loud (refine wpList_app elP (World.ownsRow.alloc (own_kept HOU.out ((Kp.refl All U).drewN nq) (fun _ _ => trivial)) _) (sl_new2 rfl (kx, vx) _) (two_one (kx, vx)) ?_ ?_ rfl _ _ rfl rfl rfl ?_); omega; (have := HKU.out.size; simp; omega); intro v' w7 hown7 hg7 hob7 hnil7; obtain ⟨A7, c7, rfl⟩ := own_shape hown7; have HOW7 := hid hown7; have HG7 := hid hg7; clear hown7 hg7 hob7 hnil7)
            have kU7 : Kp (fun i => i ≤ q) U w7 := (((Kp.refl _ U).drewN nq).alloc _).then (Kp.grown HG7.out) (fun i hi hle e => by
              have := (HOU.out.lt i e.symm).1
              omega)
            have k7 : Kp (fun i => i ≠ q) W1 w7 := ((HKU.out.drewN nq).alloc _).then (Kp.grown HG7.out) (fun i hi _ e => by
              have := (HOU.out.lt i e.symm).1
              omega)
            refine ⟨⟨m, s2, acc ++ [(kx, vx)], rfl, by rw [List.length_append, HAL.out, List.length_singleton]; omega, by omega, hid (fun x hx => ?_), HIT2, hid (HRU.out.kept kU7 (fun i hi => hi)), ?_, k7⟩, by simp [ivl]⟩
            · rcases List.mem_append.1 hx with hx | hx
              · exact hsz.out x hx
              · rw [List.mem_singleton] at hx; subst hx; dsimp only; omega
            · refine hid ?_
              have h := HOW7.out
              rw [List.length_append, HAL.out, show scs (acc ++ [(kx, vx)]) = scs acc ++ [.string kx, .string vx] from by simp [scs]]
              first | exact h | (rw [hal0] at h ⊢; exact h)
end Go.Proofs.YtodledidabdkaaaGreatDoor
