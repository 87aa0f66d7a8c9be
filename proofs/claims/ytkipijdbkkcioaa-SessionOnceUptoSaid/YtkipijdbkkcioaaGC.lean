/- session.Read on any bytes, walked once. No condition but that the bytes are not great. -/
import Derived.Test.YtkipijdbkkcioaaGB
import Derived.Test.YtkipijdbkkcioaaCS
import Derived.Lib.ConvBytes
namespace Go.Proofs.Ytkipijdbkkcioaa
open Go.RowKit
set_option linter.unusedVariables false
set_option linter.unusedSimpArgs false
theorem conv_bytes (s : ByteArray) (w : World) : ∃ c W', (convert 9 54 (.string s)).run Try.prog w = .ok (.slice (some ⟨w.heap.size, 0, none⟩) s.size c) W' ∧ Foot All (Rb (.slice (some ⟨w.heap.size, 0, none⟩) s.size c) s.data.toList) W' ∧ Kp All w W' := by
  have h := Lib.run_convert_string_bytes (P := Try.prog) w 9 54 5 s Try.underlying9 Try.underlying54 Try.underlying5
  refine ⟨_, _, h, fun u hu => ?_, ?_⟩
  · have hb := hu.heap (Lib.bytesWorld_at_new w 5 s) trivial
    refine ⟨some ⟨w.heap.size, 0, none⟩, grownCap w s.size 0 5, by rw [Array.length_toList]; rfl, ?_⟩
    have hl : s.data.toList.length = s.size := Array.length_toList ..
    rw [hl]
    refine ⟨by rw [u8s_len, hl]; omega, ?_, fun _ => ⟨_, 0, rfl, fun j z hj => ?_⟩⟩
    · exact grownCap_ge _ _ _ _
    · rw [Nat.zero_add, blk_cell hb]
      have hjl : j < s.size := by
        have := (List.getElem?_eq_some_iff.1 hj).1
        rw [u8s_len, hl] at this; exact this
      rw [Lib.bytesCells, Array.getElem?_append_left (by simp; exact hjl)]
      simp only [u8s, List.getElem?_map, Array.getElem?_toList] at hj
      simpa using hj
  · refine ⟨rfl, rfl, rfl, by rw [Lib.bytesWorld_size]; omega, fun b hb _ => Lib.bytesWorld_at_old w 5 s b hb⟩
/-- What Read tells. -/
def ReadT (xs : By) (w : World) (e : Ending) (w' : World) : Prop :=
  ((∃ T p m, readTab xs = some T ∧ e = .returned (.tuple #[.pointer (some ⟨p, 0, none⟩), .int .i64 0]) ∧ Tab (fun b => w.heap.size ≤ b ∧ b ≠ m ∧ b ≠ p) w' p m T ∧ w.heap.size ≤ p ∧ w.heap.size ≤ m) ∨ (readTab xs = none ∧ e = .returned (.tuple #[.pointer none, .int .i64 8]))) ∧ Kp All w w'
/-- Where the reading of sessions stands. -/
structure RT (w : World) (q p m : Nat) (T : Tb) (s : Sx) (W : World) : Prop where
  tab : Tab (fun b => w.heap.size ≤ b ∧ b ≠ m ∧ b ≠ p ∧ b ≠ q) W p m T
  rd : Rs q s W
  kp : Kp All w W
  hq : q = w.heap.size
  hp : q < p
  hm : q < m
theorem RT.read {w W W' : World} {q p m : Nat} {T : Tb} {s s' : Sx} (h : RT w q p m T s W) (hr : Rs q s' W') (k : Kp (fun k => k ≠ q) W W') : RT w q p m T s' W' := by
  have h1 := h.hq; have h2 := h.hp; have h3 := h.hm
  exact ⟨h.tab.kept k (show p ≠ q by omega) (show m ≠ q by omega) (fun b _ hb => hb.2.2.2), hr, h.kp.then k (fun i hi _ => by omega), h1, h2, h3⟩
theorem RT.all {w W W' : World} {q p m : Nat} {T : Tb} {s : Sx} (h : RT w q p m T s W) (k : Kp All W W') : RT w q p m T s W' := ⟨h.tab.all k, h.rd.all k, h.kp.trans k, h.hq, h.hp, h.hm⟩
theorem readTab_of {xs : By} {n : Nat} {s1 sE : Sx} {T : Tb} (h1 : cntX xs false 16 = (n, s1.1, s1.2)) (h2 : tabP n s1 0 [] = some (T, sE)) : readTab xs = if endP sE = true then some T else none := by
  rw [readTab, h1]
  simp only
  rw [h2]
theorem readTab_no {xs : By} {n : Nat} {s1 : Sx} (h1 : cntX xs false 16 = (n, s1.1, s1.2)) (h2 : tabP n s1 0 [] = none) : readTab xs = none := by
  rw [readTab, h1]
  simp only
  rw [h2]
theorem tV_size (s : Sx) : (tV s).size ≤ s.1.length := by
  unfold tV
  split
  · exact Nat.zero_le _
  · unfold getT
    split
    · exact Nat.zero_le _
    · simp only [strOfB_size, List.length_take, List.length_drop]; omega
theorem nX_len (s : Sx) : (nX s).1.length ≤ s.1.length := rdX_le _ _ _
theorem tX_len2 (s : Sx) : (tX s).1.length ≤ s.1.length := rdX_le _ _ _
theorem tabP_go {n : Nat} {s sA sB sC : Sx} {ah id sq : Int} {tx : ByteArray} {acc : Tb} (hs : s.2 = false) (a1 : iV s = id) (a2 : nX s = sA) (a3 : iV sA = sq) (a4 : nX sA = sB) (a5 : tV sB = tx) (a6 : tX sB = sC) :
    tabP (n + 1) s ah acc = match readP tx.data.toList with
      | none => none
      | some r => if id ≤ ah ∨ sq < 0 then none else tabP n sC id (acc ++ [(id, sq, r)]) := by
  rw [tabP, if_neg (by simp [hs]), a1, a2, a3, a4, a5, a6]
  cases readP tx.data.toList <;> rfl
theorem aset_new {T : Tb} {id : Int} (h : ∀ x ∈ T, x.1 ≠ id) (y : Int × RD) : aset T id y = T ++ [(id, y)] := by
  rw [aset, (aget_none_iff T id).2 h]; rfl
attribute [local irreducible] readP iV tV nX tX cntX
set_option maxRecDepth 100000 in
set_option maxHeartbeats 4000000 in
theorem sread_any (v : Value) (xs : By) (w : World) (h : Foot All (Rb v xs) w) (hl : xs.length ≤ 1000000000000) :
    Calls Try.prog 25 #[v] w (ReadT xs w) := by
  obtain ⟨A, c, rfl, hcap, hS⟩ := rb_shape h
  have HF := hid h
  have HL := hid hl
  obtain ⟨m0, hm⟩ : ∃ m, xs.length = m := ⟨_, rfl⟩
  have HM := hid hm
  rw [hm] at HF hl ⊢
  clear h hS hm
  go_enter Try.func25, Try.ntmps25
  go_wp2_with fail
  obtain ⟨q, hq⟩ : ∃ q, q = w.heap.size := ⟨_, rfl⟩
  have hR0 : Rs q (xs, false) (w.alloc (Obj.cells #[.slice A m0 c, .bool false] 86)) := ⟨.slice A m0 c, by rw [hq]; exact blk_new w _, (HF.out.mono (T := fun k => k < q) (fun k hk _ => by omega)).step (Kp.al w _).all, by rw [HM.out]; omega⟩
  have k0 : Kp All w (w.alloc (Obj.cells #[.slice A m0 c, .bool false] 86)) := Kp.al w _
  have s0 : (w.alloc (Obj.cells #[.slice A m0 c, .bool false] 86)).heap.size = q + 1 := by rw [hq]; simp
  obtain ⟨W0, hW0⟩ : ∃ W0, W0 = w.alloc (Obj.cells #[.slice A m0 c, .bool false] 86) := ⟨_, rfl⟩
  rw [← hW0] at hR0 k0 s0 ⊢
  rw [← hq]
  have HR0 := hid hR0; have K0 := hid k0; have HQ := hid hq; have S0 := hid s0
  clear hR0 k0 s0 hW0 hq
  refine (new_any _).mono ?_
  rintro e w1 ⟨⟨p, m, rfl, ht, hp, hm⟩, k1⟩
  have hRT : RT w q p m [] (xs, false) w1 := ⟨ht.mono (fun _ _ h => h.elim), HR0.out.all k1, K0.out.trans k1, HQ.out, by have := S0.out; omega, by have := S0.out; omega⟩
  have R1 := hid hRT
  clear ht hp hm k1 hRT K0 HR0 S0
  go_wp2_with fail
  refine (rcount_any q xs false 16 (by omega) _ R1.out.rd).mono ?_
  rintro e w2 ⟨rfl, h2, k2⟩
  obtain ⟨⟨n, s1, b1⟩, hc⟩ : ∃ g, cntX xs false 16 = g := ⟨_, rfl⟩
  rw [hc] at h2 ⊢
  dsimp only at h2 ⊢
  have HC := hid hc
  have R2 := hid (R1.out.read (s' := (s1, b1)) h2 k2)
  have hn16 : n ≤ 16 := by
    have h := hc
    unfold cntX at h
    split at h
    · injection h with h _; omega
    · rename_i hx
      injection h with h _
      have : ¬ 16 < (getP xs).1 := fun h => hx (Or.inr (Or.inr h))
      omega
  have hs1 : s1.length ≤ m0 := by
    have h := hc
    have := HM.out
    unfold cntX at h
    split at h
    · injection h with _ h; injection h with h _; rw [← h]; simp
    · injection h with _ h; injection h with h _; rw [← h]; simp only [List.length_drop]; omega
  have HS1 := hid hs1
  obtain ⟨res, hres⟩ : ∃ res, tabP n (s1, b1) 0 [] = res := ⟨_, rfl⟩
  have HRES := hid hres
  clear h2 k2 hc hs1 hres R1
  go_wp2_with fail
  go_loopw [6, 7] (fun a i wr => ∃ (j : Nat) (s : Sx) (T : Tb) (ah : Int), j ≤ n ∧ i = .int .i64 j ∧ a = .int .i64 ah ∧ Hid (tabP j s ah T = res) ∧ Hid (RT w q p m T s wr) ∧ Hid (∀ x ∈ T, x.1 ≤ ah) ∧ Hid (s.1.length ≤ m0)) (fun _ i _ => (intOf i).toNat)
  case atStart => exact ⟨n, (s1, b1), [], 0, Nat.le_refl _, rfl, rfl, HRES, R2, hid (by simp), HS1⟩
  case round =>
    obtain ⟨j, s, T, ah, hj, rfl, rfl, hpp, hR, hle, hsl⟩ := hrel
    obtain ⟨rv, hrc, hrf, hrl⟩ := hR.out.rd
    have cq := blk_cell hrc
    clear hrc hrf hrl
    by_cases hgo : 0 < j ∧ s.2 = false
    · obtain ⟨h0, hs⟩ := hgo
      have d0 : decide (0 < (j : Int)) = true := decide_eq_true (by omega)
      rw [hs] at cq
      obtain ⟨j', rfl⟩ : ∃ j', j = j' + 1 := ⟨j - 1, by omega⟩
      go_wp2_with fail
      refine (int_s q s _ hR.out.rd).mono ?_
      rintro e wA ⟨rfl, hA, kA⟩
      have RA := hid (hR.out.read hA kA)
      obtain ⟨⟨id, sA⟩, hsA⟩ : ∃ g : Int × Sx, (iV s, nX s) = g := ⟨_, rfl⟩
      injection hsA with heA hsA
      rw [hsA] at RA
      rw [heA]
      have EA := hid heA; have EB := hid hsA
      clear hA kA heA hsA cq
      go_wp2_with fail
      refine (int_s q sA _ RA.out.rd).mono ?_
      rintro e wB ⟨rfl, hB, kB⟩
      have RB := hid (RA.out.read hB kB)
      obtain ⟨⟨sq, sB⟩, hsB⟩ : ∃ g : Int × Sx, (iV sA, nX sA) = g := ⟨_, rfl⟩
      injection hsB with heB hsB
      rw [hsB] at RB
      rw [heB]
      have EC := hid heB; have ED := hid hsB
      clear hB kB heB hsB RA
      go_wp2_with fail
      refine (text_s q sB _ RB.out.rd).mono ?_
      rintro e wC ⟨rfl, hC, kC⟩
      have RC := hid (RB.out.read hC kC)
      obtain ⟨⟨tx, sC⟩, hsC⟩ : ∃ g : ByteArray × Sx, (tV sB, tX sB) = g := ⟨_, rfl⟩
      injection hsC with heC hsC
      rw [hsC] at RC
      rw [heC]
      have EE := hid heC; have EF := hid hsC
      obtain ⟨cc, wD, hcv, hrb, kD⟩ := conv_bytes tx wC
      have RD := hid (RC.out.all kD)
      have HRB := hid hrb
      clear hC kC heC hsC RB hrb kD RC
      go_wp2_with fail
      have htx : tx.size ≤ m0 := by
        have h1 := tV_size sB
        have h2 := nX_len s
        have h3 := nX_len sA
        rw [EE.out] at h1
        rw [EB.out] at h2
        rw [ED.out] at h3
        have := hsl.out
        omega
      have htl : tx.data.toList.length = tx.size := Array.length_toList ..
      have HGO := hid (tabP_go (n := j') (ah := ah) (acc := T) hs EA.out EB.out EC.out ED.out EE.out EF.out)
      rw [hpp.out] at HGO
      refine (readreply_any _ tx.data.toList _ HRB.out (by omega)).mono ?_
      rintro e wE ⟨⟨r, rA, rc, hr, rfl, hps, hrl⟩ | ⟨hr, rfl⟩, kE⟩
      · rw [hr] at HGO
        simp only at HGO
        have hpm : r.pairs.length ≤ m0 + 1 := by omega
        have RE := hid (RD.out.all kE)
        have HPS := hid hps
        have HDE := hid kE
        clear hps hr hrl kE
        by_cases hbad : id ≤ ah ∨ sq < 0
        · rw [if_pos hbad] at HGO
          have hno := readTab_no HC.out (HRES.out.trans HGO.out)
          have HNO := hid hno
          clear hno
          have hret : ReadT xs w (.returned (.tuple #[.pointer none, .int .i64 8])) (wE.alloc (.cells #[.int .i64 r.err, .bool r.found, .string r.val, .int .i64 r.sess, .slice rA r.pairs.length rc] 26)) := ⟨.inr ⟨HNO.out, rfl⟩, RE.out.kp.alloc _⟩
          by_cases h1 : id ≤ ah
          · have d1 : decide (id ≤ ah) = true := decide_eq_true h1
            have HRT := hid hret
            clear hret
            go_wp2_with fail
            exact bodyPost_ret (v := .tuple #[.pointer none, .int .i64 8]) (by simp [results, Try.results25, go_sem]) rfl HRT.out
          · have d1 : decide (id ≤ ah) = false := decide_eq_false h1
            have d2 : decide (sq < 0) = true := decide_eq_true (by omega)
            have HRT := hid hret
            clear hret
            go_wp2_with fail
            exact bodyPost_ret (v := .tuple #[.pointer none, .int .i64 8]) (by simp [results, Try.results25, go_sem]) rfl HRT.out
        · rw [if_neg hbad] at HGO
          have d1 : decide (id ≤ ah) = false := decide_eq_false (by omega)
          have d2 : decide (sq < 0) = false := decide_eq_false (by omega)
          obtain ⟨X, hX, hT, hF⟩ := RE.out.tab.map
          have HX := hid hX; have HT := hid hT; have HFF := hid hF
          have ct := blk_cell RE.out.tab.cell
          have hpl := blk_lt RE.out.tab.cell
          have Hne := hid RE.out.tab.ne
          have hxn : ∀ x ∈ T, x.1 ≠ id := fun x hx => by have := hle.out x hx; omega
          have HXN := hid hxn
          clear hX hT hF hxn
          go_wp2_with fail
          have bE := blk_new wE (Obj.cells #[.int .i64 r.err, .bool r.found, .string r.val, .int .i64 r.sess, .slice rA r.pairs.length rc] 26)
          have kF : Kp All wE (wE.alloc (Obj.cells #[.int .i64 r.err, .bool r.found, .string r.val, .int .i64 r.sess, .slice rA r.pairs.length rc] 26)) := Kp.al _ _
          have cE := blk_cell bE
          have cT := blk_cell (kF.heap RE.out.tab.cell trivial)
          obtain ⟨wF, hwF⟩ : ∃ wF, wF = wE.alloc (Obj.cells #[.int .i64 r.err, .bool r.found, .string r.val, .int .i64 r.sess, .slice rA r.pairs.length rc] 26) := ⟨_, rfl⟩
          rw [← hwF] at bE kF cE cT ⊢
          have KF := hid kF
          clear hwF bE kF ct
          refine RegionLast.wp_region_end_quiet (by kernel_rfl) (by kernel_rfl) (by kernel_rfl) ?_; simp only [List.length_cons, List.length_nil, Nat.zero_add, Nat.reduceAdd, Nat.reduceSub, List.take_succ_cons, List.take_zero, List.drop_succ_cons, List.drop_zero]
          repeat (go_big_quiet_step (fail))
          refine wpQuiet_nil ?_; intro _ hw'; obtain ⟨nq, hw''⟩ := hw'; subst hw''
          generalize nq = qa
          go_wp2_with (at_mapUpdate; go_loud (refine wpList_mapset intKey Try.underlying58 (L := X.map fun x => (x.1, x.2.v)) (by exact HX.out.all (KF.out.drewN _)) id (LV sq r rA rc) rfl _ _ _ rfl rfl rfl rfl ?_); intro w4 hm4 hk4; have HM4 := hid hm4; have HK4 := hid hk4; clear hm4 hk4)
          have l1 := blk_lt RD.out.tab.cell
          have l2 := RD.out.tab.map_lt
          obtain ⟨_, hqd, _, _⟩ := RD.out.rd
          have l3 := blk_lt hqd
          have hq0 := RD.out.hq; have hp0 := RD.out.hp; have hm0 := RD.out.hm
          have hk5 : Kp All wE (wF.drewN qa) := KF.out.drewN _
          have hyy : Foot (fun b => w.heap.size ≤ b ∧ b ≠ m ∧ b ≠ p ∧ b ≠ q) (Ps rA rc r.pairs) w4 := ((HPS.out.step hk5.all).step (HK4.out.mono fun b _ hb e => by have h : wD.heap.size ≤ b := hb; omega)).mono fun b _ hb => by have h : wD.heap.size ≤ b := hb; omega
          have htab := (RE.out.tab.all hk5).set (id := id) (y := ⟨sq, r, rA, rc⟩) HT.out (fun x hx => ⟨(HFF.out x hx).1.step hk5.all, (HFF.out x hx).2⟩) HM4.out HK4.out (fun h => h.2.1 rfl) hyy (show r.pairs.length * 32 ≤ 140737488355328 by omega)
          rw [aset_new HXN.out] at htab
          refine ⟨⟨j', sC, T ++ [(id, sq, r)], id, by omega, by go_num, rfl, hid HGO.symm, ⟨htab, (RE.out.rd.all hk5).kept HK4.out (fun i hi e => by omega), (RE.out.kp.trans hk5).then HK4.out (fun i hi _ e => by omega), hq0, hp0, hm0⟩, hid (fun x hx => ?_), hid ?_⟩, by simp [intOf]⟩
          · rcases List.mem_append.1 hx with hx | hx
            · have := hle.out x hx; omega
            · rw [List.mem_singleton.1 hx]; exact Int.le_refl _
          · have h2 := nX_len s
            have h3 := nX_len sA
            have h4 := tX_len2 sB
            rw [EB.out] at h2
            rw [ED.out] at h3
            rw [EF.out] at h4
            have := hsl.out
            omega
      · rw [hr] at HGO
        have hno := readTab_no HC.out (HRES.out.trans HGO.out)
        have HRT := hid (show ReadT xs w (.returned (.tuple #[.pointer none, .int .i64 8])) (wE.alloc (.cells #[.int .i64 0, .bool false, .string ⟨#[]⟩, .int .i64 0, .slice none 0 0] 26)) from ⟨.inr ⟨hno, rfl⟩, (RD.out.all kE).kp.alloc _⟩)
        clear hno hr kE
        go_wp2_with fail
        exact bodyPost_ret (v := .tuple #[.pointer none, .int .i64 8]) (by simp [results, Try.results25, go_sem]) rfl HRT.out
    · have hfin : res = some (T, s) := by
        have h := hpp.out
        cases j with
        | zero => rw [tabP] at h; exact h.symm
        | succ j =>
          have hs : s.2 = true := by
            cases h2 : s.2 with
            | true => rfl
            | false => exact absurd ⟨by omega, h2⟩ hgo
          rw [tabP, if_pos hs] at h
          exact h.symm
      have hcase : j = 0 ∨ (0 < j ∧ s.2 = true) := by
        by_cases h : j = 0
        · exact .inl h
        · refine .inr ⟨by omega, ?_⟩
          cases h2 : s.2 with
          | true => rfl
          | false => exact absurd ⟨by omega, h2⟩ hgo
      have HRP := hid (readTab_of HC.out (HRES.out.trans hfin))
      clear hgo hfin
      refine or2 hcase ?cA ?cB
      case' cA =>
        intro hj0
        have d0 : decide (0 < (j : Int)) = false := decide_eq_false (by omega)
        go_wp2_with fail
      case' cB =>
        rintro ⟨h0, hs⟩
        have d0 : decide (0 < (j : Int)) = true := decide_eq_true (by omega)
        rw [hs] at cq
        go_wp2_with fail
      all_goals (
        refine (rend_any q s.1 s.2 _ hR.out.rd).mono ?_
        rintro e wE ⟨rfl, rfl⟩
        obtain ⟨fb, hfb⟩ : ∃ fb, endP s = fb := ⟨_, rfl⟩
        have hfb' : (!s.2 && s.1.length == 0) = fb := hfb
        rw [hfb']
        rw [hfb] at HRP
        have hq0 := hR.out.hq; have hp0 := hR.out.hp; have hm0 := hR.out.hm
        clear hfb hfb'
        cases fb with
        | true =>
          have HN : Hid (readTab xs = some T) := hid (by rw [HRP.out]; rfl)
          go_wp2_with fail
          exact bodyPost_ret (v := .tuple #[.pointer (some ⟨p, 0, none⟩), .int .i64 0]) (by simp [results, Try.results25, go_sem]) rfl ⟨.inl ⟨T, p, m, HN.out, rfl, hR.out.tab.mono (fun b _ hb => ⟨hb.1, hb.2.1, hb.2.2.1⟩), by omega, by omega⟩, hR.out.kp⟩
        | false =>
          have HN : Hid (readTab xs = none) := hid (by rw [HRP.out]; rfl)
          go_wp2_with fail
          exact bodyPost_ret (v := .tuple #[.pointer none, .int .i64 8]) (by simp [results, Try.results25, go_sem]) rfl ⟨.inr ⟨HN.out, rfl⟩, hR.out.kp⟩)
end Go.Proofs.Ytkipijdbkkcioaa
