/- The disk: Create of a new name, and Read: walked once each. No condition on the disk but that it lies as Dk says. -/
import Derived.Test.YtdlbccjimdghkaaDL
import Derived.LaidEqlPtr
namespace Go.Proofs.Ytdlbccjimdghkaa
open Go.RowKit
set_option linter.unusedVariables false
theorem infoFile : (Try.prog.info? 65).map (fun i => (i.zero, i.size, i.bytes)) = some (some (.agg #[.slice none 0 0, .int .i64 0]), 2, 32) := by kernel_rfl
theorem ptr_same (a : Nat) (w : World) : (binOp .eql 62 (.pointer (some ⟨a, 0, none⟩)) (.pointer (some ⟨a, 0, none⟩))).run Try.prog w = .ok (.bool true) w := by
  obtain ⟨i, hi, _⟩ := info_parts infoFile
  exact run_eql_ptr_same w _ Try.underlying62 hi
theorem ptr_other {a b : Nat} {ca cb : Array Value} {w : World} (hne : a ≠ b) (ha : w.heap[a]? = some (.cells ca 65 (0, 0))) (hb : w.heap[b]? = some (.cells cb 65 (0, 0))) :
    (binOp .eql 62 (.pointer (some ⟨a, 0, none⟩)) (.pointer (some ⟨b, 0, none⟩))).run Try.prog w = .ok (.bool false) w := by
  obtain ⟨i, hi, _, hs, _⟩ := info_parts infoFile
  exact run_eql_ptr_other w Try.underlying62 hi (by rw [hs]; decide) (fun e => hne (by injection e)) ha hb
def newErr (D : DS) (n : Nm) : Int := if D.off then 9 else if goodB n then (if D.fit then createErr1 D else 9) else 3
def newD (D : DS) (n : Nm) : DS := if D.off then D else if goodB n then (if D.fit then createD1 D.begun n else D.begun) else D
theorem en35 : Enters Try.prog 35 := enters_of Try.func35 (by kernel_rfl) rfl

set_option maxRecDepth 100000 in
set_option maxHeartbeats 1000000 in
theorem create_new (p : Nat) (ro : Nat → Role) (D : DS) (hok : D.Ok) (n : Nm) (hsz : n.size ≤ 9223372036854775806) (w : World) (h : Dk w p ro D) (hn : aget D.F n = none) :
    Calls Try.prog 14 #[.pointer (some ⟨p, 0, none⟩), .string n] w (Op1 w ro p (newErr D n) (newD D n)) := by
  have HD := hid h
  obtain ⟨m, fp, bv, BV, h⟩ := h
  have H := hid h
  have hp := blk_lt h.cell
  have B1 := hid h.cell
  obtain ⟨bo, hbo⟩ : ∃ x, D.off = x := ⟨_, rfl⟩
  have HBO := hid hbo
  have HN := hid hn
  have hmf : ∀ (fn : Fn) (first cap : Array Value) (w : World), (Instr.makeFunc fn first cap).run Try.prog w = .ok (.func fn first cap) w := fun _ _ _ _ => rfl
  clear h hbo hn
  cases bo
  · obtain ⟨gb, hgb⟩ : ∃ x, goodB n = x := ⟨_, rfl⟩
    have HG := hid hgb
    clear hgb
    cases gb
    · go_enter Try.func14, Try.ntmps14
      go_wp2_with fail
      refine (may_any p m D _ bv _ (by exact blk_alloc (blk_alloc B1.out _) _)).mono ?_
      rintro e w1 ⟨rfl, rfl⟩
      rw [show mayErr D = 0 from by rw [mayErr, HBO.out]; rfl]
      go_wp2_with fail
      refine (good_any n hsz _).mono ?_
      rintro e w1 ⟨rfl, rfl⟩
      rw [HG.out]
      go_wp2_with fail
      go_ret
      exact ⟨by rw [newErr, HBO.out, HG.out]; rfl, by rw [newD, HBO.out, HG.out]; exact HD.out.nx ((Kp.al _ _).alloc _)⟩
    · go_enter Try.func14, Try.ntmps14
      go_wp2_with fail
      refine (may_any p m D _ bv _ (by exact blk_alloc (blk_alloc B1.out _) _)).mono ?_
      rintro e w1 ⟨rfl, rfl⟩
      rw [show mayErr D = 0 from by rw [mayErr, HBO.out]; rfl]
      go_wp2_with fail
      refine (good_any n hsz _).mono ?_
      rintro e w1 ⟨rfl, rfl⟩
      rw [HG.out]
      go_wp2_with fail
      have hk3 : Kp All w ((w.alloc (.cells #[.pointer (some ⟨p, 0, none⟩)] 27)).alloc (.cells #[.string n] 9)) := (Kp.al _ _).alloc _
      have H3 := H.out.kept hk3 (fun _ _ => trivial)
      have hc : D.fit = true → ∀ w1, Dk0 w1 p ro D.begun m fp bv BV → Kp (fun b => b ≠ p) ((w.alloc (.cells #[.pointer (some ⟨p, 0, none⟩)] 27)).alloc (.cells #[.string n] 9)) w1 → Calls Try.prog 35 #[.pointer (some ⟨w.heap.size, 0, none⟩), .pointer (some ⟨w.heap.size + 1, 0, none⟩)] w1 (Op1 w ro p (createErr1 D.begun) (createD1 D.begun n)) := by
        intro hfit w1 h1 k1
        obtain ⟨eF, eB, eb, eo⟩ := begun_fit hfit
        have kk : Kp (fun z => ro z = .none) w w1 := hk3.all.trans (k1.mono fun z _ hz => ndisk H.out.rp z hz)
        have x1 := blk_new w (.cells #[.pointer (some ⟨p, 0, none⟩)] 27)
        have x2 := blk_new (w.alloc (.cells #[.pointer (some ⟨p, 0, none⟩)] 27)) (.cells #[.string n] 9)
        rw [World.size_alloc] at x2
        have := (create1_new p ro D.begun n w.heap.size (w.heap.size + 1) w1 ⟨m, fp, bv, BV, h1⟩ (by rw [eF]; exact HN.out) (k1.heap x2 (by omega)) (k1.heap (blk_alloc x1 _) (by omega)) (H.out.rnew _ (by omega)) (H.out.rnew _ (by omega)))
        exact this.mono fun e w' h => h.pre kk
      refine (does_any p ro D hok.o0 hok.o1 hok.f1 _ m fp bv BV H3 35 _ en35 (Op1 w ro p (createErr1 D.begun) (createD1 D.begun n)) (fun _ _ h => h.num) hc).mono ?_
      rintro e w1 ⟨hn1, hn2⟩
      cases hfit : D.fit with
      | false =>
        obtain ⟨rfl, hnx⟩ := hn1 hfit
        have HNX := hid hnx
        have HFT := hid hfit
        clear hn1 hn2 hnx hfit hc H3
        go_wp2_with fail
        go_ret
        refine ⟨?_, ?_⟩
        · rw [newErr, HBO.out, HG.out]; simp [HFT.out]
        · rw [newD, HBO.out, HG.out]
          simp only [HFT.out, Bool.false_eq_true, if_false, if_true]
          exact Nx.pre hk3 HNX.out
      | true =>
        obtain ⟨rfl, hp2⟩ := hn2 hfit
        obtain ⟨eF, eB, eb, eo⟩ := begun_fit hfit
        have HP2 := hid hp2
        have HFT := hid hfit
        have HE : Hid (createErr1 D.begun = createErr1 D) := hid (by rw [createErr1, createErr1, eF, eB, eb])
        clear hn1 hn2 hp2 hfit hc H3 eF eB eb eo
        go_wp2_with fail
        go_ret
        refine ⟨?_, ?_⟩
        · rw [newErr, HBO.out, HG.out]; simp [HFT.out, HE.out]
        · rw [newD, HBO.out, HG.out]
          simp only [HFT.out, if_true, Bool.false_eq_true, if_false]
          exact HP2.out
  · go_enter Try.func14, Try.ntmps14
    go_wp2_with fail
    refine (may_any p m D _ bv _ (by exact blk_alloc (blk_alloc B1.out _) _)).mono ?_
    rintro e w1 ⟨rfl, rfl⟩
    rw [show mayErr D = 9 from by rw [mayErr, HBO.out]; rfl]
    go_wp2_with fail
    go_ret
    exact ⟨by rw [newErr, HBO.out]; rfl, by rw [newD, HBO.out]; exact HD.out.nx ((Kp.al _ _).alloc _)⟩

/-- the bytes of a file, those that are not sure too -/
def pieces (B : List (Nm × By)) (n : Nm) : By := B.flatMap fun x => if x.1 = n then x.2 else []
theorem pieces_take {B : List (Nm × By)} {n : Nm} {k : Nat} {x : Nm × By} (h : B[k]? = some x) : pieces (B.take (k + 1)) n = pieces (B.take k) n ++ (if x.1 = n then x.2 else []) := by
  unfold pieces
  rw [List.take_add_one, h]
  simp
theorem pieces_le (B : List (Nm × By)) (n : Nm) : (pieces B n).length ≤ pend B := by
  induction B with
  | nil => simp [pieces, pend]
  | cons x l ih =>
    simp only [pieces, List.flatMap_cons, List.length_append, pend, List.map_cons, List.sum_cons] at ih ⊢
    split
    · omega
    · simp only [List.length_nil]; omega
def readErr (D : DS) (n : Nm) : Int := if D.off then 9 else if (aget D.F n).isSome then 0 else 4
def readB (D : DS) (n : Nm) : By := if D.off then [] else match aget D.F n with
  | none => []
  | some s => s ++ pieces D.B n
def Read (w : World) (b : By) (err : Int) (e : Ending) (w' : World) : Prop :=
  ∃ v, e = .returned (.tuple #[v, .int .i64 err]) ∧ w'.ownsRow w.heap.size 5 1 v b.length (u8s b) ∧ Kp All w w'

set_option maxRecDepth 100000 in
set_option maxHeartbeats 1000000 in
theorem read_any (p : Nat) (ro : Nat → Role) (D : DS) (n : Nm) (w : World) (h : Dk w p ro D) :
    Calls Try.prog 20 #[.pointer (some ⟨p, 0, none⟩), .string n] w (Read w (readB D n) (readErr D n)) := by
  have HD := hid h
  obtain ⟨m, fp, bv, BV, h⟩ := h
  have H := hid h
  have hp := blk_lt h.cell
  have c1 := blk_cell h.cell
  have B1 := hid h.cell
  unfold dcs at c1
  obtain ⟨bo, hbo⟩ : ∃ x, D.off = x := ⟨_, rfl⟩
  obtain ⟨y, hy⟩ : ∃ y, aget D.F n = y := ⟨_, rfl⟩
  have HBO := hid hbo
  have HY := hid hy
  have hz : ∀ w : World, (zeroValue 62).run Try.prog w = .ok (.pointer none) w := fun w => by kernel_rfl
  have hmap : (aget (D.F.map fun x => (x.1, Value.pointer (some ⟨fp x.1, 0, none⟩))) n) = y.map fun _ => Value.pointer (some ⟨fp n, 0, none⟩) := by
    rw [aget_keys D.F (fun x => Value.pointer (some ⟨fp x, 0, none⟩)), hy]
  have HMAP := hid hmap
  have hpl := h.pend_le
  clear h hbo hy hmap
  cases bo
  · cases y with
    | none =>
      have hv : (aget (D.F.map fun x => (x.1, Value.pointer (some ⟨fp x.1, 0, none⟩))) n).getD (.pointer none) = .pointer none := by rw [HMAP.out]; rfl
      have HV := hid hv
      clear hv
      go_enter Try.func20, Try.ntmps20
      go_wp2_with fail
      refine (may_any p m D _ bv _ B1.out).mono ?_
      rintro e w1 ⟨rfl, rfl⟩
      rw [show mayErr D = 0 from by rw [mayErr, HBO.out]; rfl]
      go_wp2_with (at_lookup; go_loud (refine wpList_lookup_val strKey Try.underlying54 H.out.map n (hz _) HV.out rfl _ _ rfl rfl rfl ?_))
      refine bodyPost_ret (v := .tuple #[.slice none 0 0, .int .i64 4]) (by simp [results, Try.results20, go_sem]) rfl ⟨.slice none 0 0, ?_, ?_, Kp.refl _ _⟩
      · rw [readErr, HBO.out, HY.out]; rfl
      · rw [readB, HBO.out, HY.out]; exact World.ownsRow_nil _ _ _ _
    | some s =>
      have hv : (aget (D.F.map fun x => (x.1, Value.pointer (some ⟨fp x.1, 0, none⟩))) n).getD (.pointer none) = .pointer (some ⟨fp n, 0, none⟩) := by rw [HMAP.out]; rfl
      have HV := hid hv
      have hs := aget_mem HY.out
      have hsz := H.out.size_le hs
      obtain ⟨sv, q1, q2, q3⟩ := H.out.fl.lie _ hs
      simp only at q1 q2 q3 hsz
      obtain ⟨SA, sc, rfl⟩ := own_shape q2
      obtain ⟨BA, bc, rfl⟩ := own_shape H.out.bf.row
      have hsl : Foot All (Sl SA s.length sc 1 (u8s s)) w := by
        have := (own_sl q2 (Nat.le_refl _)).1
        intro u hu
        have h2 := (own_sl (own_kept q2 hu (fun _ _ => trivial)) (Nat.le_refl s.length)).1
        rwa [List.take_of_length_le (by simp)] at h2
      have hl8 : s.length ≤ 140737488355328 := by omega
      obtain ⟨l, hl⟩ : ∃ l, D.B.length = l := ⟨_, rfl⟩
      have hnm := own_le H.out.bf.row
      rw [hl] at hnm c1
      have HL := hid hl
      obtain ⟨f, hf⟩ : ∃ f, fp n = f := ⟨_, rfl⟩
      rw [hf] at q1
      rw [hf] at hv
      have HV := hid hv
      have HF := hid hf
      have c2 := blk_cell q1
      have HSL := hid hsl; have HS := hid hs
      have HQ1 := hid q1
      clear hv hsl hl hf hs q1
      go_enter Try.func20, Try.ntmps20
      go_wp2_with fail
      refine (may_any p m D _ _ _ B1.out).mono ?_
      rintro e w1 ⟨rfl, rfl⟩
      rw [show mayErr D = 0 from by rw [mayErr, HBO.out]; rfl]
      go_wp2_with (at_lookup; go_loud (refine wpList_lookup_val strKey Try.underlying54 H.out.map n (hz _) HV.out rfl _ _ rfl rfl rfl ?_))
      refine (clone8_any SA s.length sc (u8s s) w HSL.out hl8 (u8s_one s)).mono ?_
      rintro e w1 ⟨⟨v, rfl, hv⟩, hk⟩
      obtain ⟨Av, cv, rfl⟩ := own_shape hv
      have c1 := blk_cell (hk.heap B1.out trivial)
      unfold dcs at c1
      rw [HL.out] at c1
      have HV1 := hid hv; have HK := hid hk
      clear hv hk
      go_wp2_with fail
      go_loopw [8, 34] (fun x i wr => ∃ (k : Nat) (b : By), k ≤ l ∧ i = .int .i64 k ∧ b = s ++ pieces (D.B.take k) n ∧ Hid (wr.ownsRow w.heap.size 5 1 x b.length (u8s b)) ∧ Hid (Kp All w wr)) (fun _ i _ => l - (intOf i).toNat)
      case atStart => exact ⟨0, s, Nat.zero_le _, rfl, by simp [pieces], HV1.out, HK.out⟩
      case round =>
        obtain ⟨k, b, hk, rfl, hb, hown, hkp⟩ := hrel
        by_cases hlt : k < l
        · have hb0 : decide ((k : Int) < (l : Int)) = true := decide_eq_true (by omega)
          obtain ⟨x, hx⟩ : ∃ x, D.B[k]? = some x := ⟨_, List.getElem?_eq_getElem (by rw [HL.out]; exact hlt)⟩
          have hpt := pieces_take (n := n) hx
          obtain ⟨g, cap, A', c', e1, _, p1, p2, p3, p4, _⟩ := (H.out.kept hkp.out (fun _ _ => trivial)).bf.at hx
          rw [HL.out] at e1
          injection e1 with eA _ ec
          subst eA ec
          have i0 : (0 : Int) ≤ (k : Int) := by omega
          have i1 : (k : Int) < (l : Int) := by omega
          have hbl : b.length ≤ 2147483648 := by
            have h1 := pieces_le (D.B.take k) n
            have h2 := pend_take_le D.B k
            rw [hb, List.length_append]
            omega
          have hxl : x.2.length ≤ 1073741824 := by
            have h1 := pend_take hx
            have h2 := pend_take_le D.B (k + 1)
            omega
          obtain ⟨Ab, cb, hbe⟩ := own_shape hown.out
          by_cases hxn : x.1 = n
          · rw [if_pos hxn] at hpt
            rw [hxn, HF.out] at p1
            have HX := hid hx; have HPT := hid hpt; have HBB := hid hb
            have P3 := hid p3
            subst hbe
            obtain ⟨lx, hlx⟩ : ∃ z, x.2.length = z := ⟨_, rfl⟩
            obtain ⟨lb, hlb⟩ : ∃ z, b.length = z := ⟨_, rfl⟩
            have HLX := hid hlx; have HLB := hid hlb
            rw [hlx] at p2 hxl
            rw [hlb] at hbl
            have ho2 := hown.out
            rw [hlb] at ho2 ⊢
            have HO2 := hid ho2
            have p3' := p3
            rw [hlx] at p3'
            have P3 := hid (fun o => (own_sl (World.ownsRow.alloc p3' o) (Nat.le_refl lx)).1)
            have h8 := u8s_one x.2
            have H8 := hid h8
            have hlen : lx = (u8s x.2).length := by rw [u8s_len, hlx]
            have HLEN := hid hlen
            have hsz1 : w.heap.size ≤ wr.heap.size := hkp.out.size
            have hbnd : (lb + lx) * 1 ≤ 140737488355328 := by omega
            have hsame := ptr_same f
            clear hx hpt hb p3 p4 hlx hlb ho2 p3' h8 hlen hown
            go_wp2_with (at_builtin; go_loud (refine wpList_app el8 (HO2.out.alloc _) (by have := P3.out (.cells #[.pointer (some ⟨f, 0, none⟩), .slice A' lx c'] 67); exact this) ?_ hbnd (by simp; omega) rfl _ _ rfl rfl rfl ?_); (exact fun u hu => H8.out u (List.mem_of_mem_take hu)); intro v' w2 hown2 hg2 hob2 hnil2; obtain ⟨A2, c2', rfl⟩ := own_shape hown2; have HOW := hid hown2; have HG2 := hid hg2; clear hown2 hg2 hob2 hnil2)
            have hfin : w2.ownsRow w.heap.size 5 1 (.slice A2 (lb + lx) c2') (b ++ x.2).length (u8s (b ++ x.2)) := by
              rw [List.length_append, HLB.out, HLX.out, u8s_append]
              have := HOW.out
              rwa [List.take_of_length_le (by rw [← HLEN.out]; exact Nat.le_refl _)] at this
            have hkw : Kp All w w2 := (hkp.out.alloc _).then (Kp.grown HG2.out) (fun i hi _ e => by
              have := (HO2.out.lt i e.symm).1
              omega)
            exact ⟨⟨k + 1, b ++ x.2, by omega, by go_num, by rw [HPT.out, ← List.append_assoc, ← HBB.out], hfin, hkw⟩, by simp [intOf]; omega⟩
          · rw [if_neg hxn, List.append_nil] at hpt
            obtain ⟨s', hs'⟩ := mem_keys (H.out.names x (List.mem_of_getElem? hx))
            have hne : fp x.1 ≠ f := fun e => hxn (H.out.fl.inj (x.1, s') hs' (n, s) HS.out (by simp only; rw [HF.out]; exact e))
            obtain ⟨fx, hfx⟩ : ∃ z, fp x.1 = z := ⟨_, rfl⟩
            rw [hfx] at p1 hne
            have HPT := hid hpt
            obtain ⟨_, qx, _⟩ := (H.out.kept hkp.out (fun _ _ => trivial)).fl.lie _ hs'
            simp only at qx
            rw [hfx] at qx
            have hoth := fun o => ptr_other (w := wr.alloc o) hne (blk_alloc qx o) (blk_alloc (hkp.out.heap HQ1.out trivial) o)
            clear qx
            subst hbe
            clear hx hpt p3 p4 hs' hfx
            have HBB := hid hb
            clear hb
            go_wp2_with fail
            exact ⟨⟨k + 1, b, by omega, by go_num, by rw [HPT.out]; exact HBB.out, World.ownsRow.alloc hown.out _, hkp.out.alloc _⟩, by simp [intOf]; omega⟩
        · have hb0 : decide ((k : Int) < (l : Int)) = false := decide_eq_false (by omega)
          have : k = l := by omega
          subst this
          rw [List.take_of_length_le (by rw [HL.out]; exact Nat.le_refl _)] at hb
          obtain ⟨Ab, cb, hbe⟩ := own_shape hown.out
          subst hbe
          go_wp2_with fail
          refine bodyPost_ret (v := .tuple #[.slice Ab b.length cb, .int .i64 0]) (by simp [results, Try.results20, go_sem]) rfl ⟨.slice Ab b.length cb, ?_, ?_, hkp.out⟩
          · rw [readErr, HBO.out, HY.out]; rfl
          · have : readB D n = b := by rw [readB, HBO.out, HY.out, hb]; rfl
            rw [this]
            exact hown.out
  · go_enter Try.func20, Try.ntmps20
    go_wp2_with fail
    refine (may_any p m D _ bv _ B1.out).mono ?_
    rintro e w1 ⟨rfl, rfl⟩
    rw [show mayErr D = 9 from by rw [mayErr, HBO.out]; rfl]
    go_wp2_with fail
    refine bodyPost_ret (v := .tuple #[.slice none 0 0, .int .i64 9]) (by simp [results, Try.results20, go_sem]) rfl ⟨.slice none 0 0, ?_, ?_, Kp.refl _ _⟩
    · rw [readErr, HBO.out]; rfl
    · rw [readB, HBO.out]; exact World.ownsRow_nil _ _ _ _
end Go.Proofs.Ytdlbccjimdghkaa
