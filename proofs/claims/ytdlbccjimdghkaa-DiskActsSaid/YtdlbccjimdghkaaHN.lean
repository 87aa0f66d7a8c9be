/- The document's disk in memory: Spoil, walked once. No condition but that it lies as RD says, and is good. -/
import Derived.Test.YtdlbccjimdghkaaHM
namespace Go.Proofs.Ytdlbccjimdghkaa
open Go.RowKit
set_option linter.unusedVariables false
set_option linter.unusedSimpArgs false
def flip (s : By) (i bit : Nat) : By := s.set i (s.getD i 0 ^^^ UInt8.ofNat (2 ^ bit))
theorem flip_len (s : By) (i bit : Nat) : (flip s i bit).length = s.length := by rw [flip, List.length_set]
/-- a bit of the i-th of what is not sure of a file -/
def flipB (n : Nm) (bit : Nat) : List (Nm × By) → Nat → List (Nm × By)
  | [], _ => []
  | (m, b) :: B, i => if m = n then (if i < b.length then (m, flip b i bit) :: B else (m, b) :: flipB n bit B (i - b.length)) else (m, b) :: flipB n bit B i
def flipF (F : List (Nm × By)) (n : Nm) (i bit : Nat) : List (Nm × By) := F.map fun y => if y.1 = n then (y.1, flip y.2 i bit) else y
def spoOut (D : DS) (n : Nm) (s : By) (i bit : Int) : Prop := i < 0 ∨ i ≥ ((s.length + moreOf D.B n : Nat) : Int) ∨ bit < 0 ∨ bit > 7
instance (D : DS) (n : Nm) (s : By) (i bit : Int) : Decidable (spoOut D n s i bit) := by unfold spoOut; infer_instance
def spoErr (D : DS) (n : Nm) (i bit : Int) : Int := if D.off then 9 else match aget D.F n with
  | none => 4
  | some s => if spoOut D n s i bit then 6 else 0
def spoD (D : DS) (n : Nm) (i bit : Int) : DS := if D.off then D else match aget D.F n with
  | none => D
  | some s => if spoOut D n s i bit then D else if i < (s.length : Int) then { D with F := flipF D.F n i.toNat bit.toNat } else { D with B := flipB n bit.toNat D.B (i.toNat - s.length) }
theorem xor_u8 (a : UInt8) (bt : Nat) : bits .xor .u8 ((a.toNat : Nat) : Int) (2 ^ bt % 256) = ((a ^^^ UInt8.ofNat (2 ^ bt)).toNat : Int) := by
  obtain ⟨x, hx⟩ : ∃ x : Nat, 2 ^ bt % 256 = x := ⟨_, rfl⟩
  have hxl : x < 256 := by rw [← hx]; exact Nat.mod_lt _ (by decide)
  have ha : a.toNat < 256 := a.toNat_lt
  have e1 : ((2 : Int) ^ bt % 256) = (x : Int) := by rw [← hx]; simp
  have e2 : (a ^^^ UInt8.ofNat (2 ^ bt)).toNat = a.toNat ^^^ x := by
    rw [UInt8.toNat_xor, UInt8.toNat_ofNat', ← hx]
  rw [e1, e2]
  have hxx : a.toNat ^^^ x < 2 ^ 8 := Nat.xor_lt_two_pow (by omega) (by omega)
  have h1 : (BitVec.ofInt 8 (a.toNat : Int)).toNat = a.toNat := by
    rw [BitVec.ofInt_natCast, BitVec.toNat_ofNat]; exact Nat.mod_eq_of_lt (by omega)
  have h2 : (BitVec.ofInt 8 (x : Int)).toNat = x := by
    rw [BitVec.ofInt_natCast, BitVec.toNat_ofNat]; exact Nat.mod_eq_of_lt (by omega)
  show IntKind.u8.wrap ((BitVec.ofInt 8 (a.toNat : Int) ^^^ BitVec.ofInt 8 (x : Int)).toNat : Int) = _
  rw [BitVec.toNat_xor, h1, h2, IntKind.wrap_u8]
  omega
theorem flipF_set {F : List (Nm × By)} {k : Nat} {n : Nm} {s : By} {i bit : Nat} (hn : (F.map (·.1)).Nodup) (h : F[k]? = some (n, s)) : flipF F n i bit = F.set k (n, flip s i bit) := by
  induction F generalizing k with
  | nil => simp at h
  | cons q F ih =>
    simp only [List.map_cons, List.nodup_cons] at hn
    cases k with
    | zero =>
      simp at h; subst h
      rw [List.set_cons_zero, flipF, List.map_cons, if_pos rfl]
      congr 1
      rw [List.map_congr_left (g := id), List.map_id]
      intro u hu
      rw [if_neg (fun e : u.1 = n => hn.1 (by show n ∈ _; rw [← e]; exact List.mem_map.2 ⟨u, hu, rfl⟩))]; rfl
    | succ k =>
      have h' : F[k]? = some (n, s) := by simpa using h
      have hne : q.1 ≠ n := fun e => hn.1 (by rw [e]; exact List.mem_map.2 ⟨(n, s), List.mem_of_getElem? h', rfl⟩)
      rw [List.set_cons_succ, ← ih hn.2 h', flipF, List.map_cons, if_neg hne]
      rfl
theorem le_pend {B : List (Nm × By)} {x : Nm × By} (h : x ∈ B) : x.2.length ≤ pend B := by
  induction B with
  | nil => cases h
  | cons y B ih =>
    simp only [pend, List.map_cons, List.sum_cons] at ih ⊢
    rcases List.mem_cons.1 h with rfl | h
    · omega
    · have := ih h; omega
theorem qspoil_end {Z : Nat → Prop} {p : Nat} {R : DS} {lv bv v v0 nv : Value} {LV BV : List Itm} {w wr : World} {z : Nm} {zb b' : By} {nb j : Nat} (h : RD0 Z p R lv bv LV BV w) (hk : Kp All w wr) (hnb : BV.length = nb) (hx : BV[j]? = some (z, zb, v0))
    (hrow : wr.ownsRow w.heap.size 96 2 nv nb ((ncs BV).set (j * 2 + 1) v)) (hv : wr.ownsRow w.heap.size 5 1 v b'.length (u8s b')) :
    Rx Z p { R with B := R.B.set j (z, b') } w (wr.setCell ⟨p, 2, none⟩ nv) := by
  have kS : Kp (fun i => i ≠ p) wr (wr.setCell ⟨p, 2, none⟩ nv) := (Kp.refl _ _).setOut (fun h => h rfl) _
  have h6 := h.all hk
  have hpw : ∀ {e sz n : Nat} {u : Value} {xs : List Value}, wr.ownsRow 0 e sz u n xs → e ≠ 77 → ∀ i, u.ownBlock = some i → i ≠ p := fun hu he i hi => by
    obtain ⟨cur, hc⟩ := own_ty hu hi
    exact ty_ne hc h6.cell he
  have hr0 := World.ownsRow.mono hrow (Nat.zero_le _)
  have hv0 := World.ownsRow.mono hv (Nat.zero_le _)
  rw [ncs_set hx b'] at hr0
  refine Rx.mk' h (hk.all.then kS fun i hi hn e => hn (e ▸ h.zp)) (lv' := lv) (bv' := nv) (LV' := LV) (BV' := BV.set j (z, b', v)) (by rw [blk_set h6.cell 2]; rfl) h.fe (by
    show R.B.set j (z, b') = _
    rw [h.be, nms, nms, List.map_set]) (own_kept h6.fr kS (hpw h6.fr (by decide))) (by
    rw [List.length_set, hnb]
    exact own_kept hr0 kS (hpw hr0 (by decide))) (fun x hx => ?_) (fun i hi => .inl (h.zl i hi)) (fun i hi => .inr (hrow.lt i hi).1)
  rcases hx with hx | hx
  · exact ⟨own_kept (h6.data x (.inl hx)) kS (hpw (h6.data x (.inl hx)) (by decide)), fun i hi => .inl (h.zd x (.inl hx) i hi)⟩
  · rcases List.mem_or_eq_of_mem_set hx with hx | rfl
    · exact ⟨own_kept (h6.data x (.inr hx)) kS (hpw (h6.data x (.inr hx)) (by decide)), fun i hi => .inl (h.zd x (.inr hx) i hi)⟩
    · exact ⟨own_kept hv0 kS (hpw hv0 (by decide)), fun i hi => .inr (hv.lt i hi).1⟩
set_option maxRecDepth 100000 in
set_option maxHeartbeats 1000000 in
theorem qspoil_any (Z : Nat → Prop) (p : Nat) (R : DS) (n : Nm) (i bit : Int) (w : World) (h : RD Z p R w) (hg : Gd R) :
    Calls Try.prog 60 #[.pointer (some ⟨p, 0, none⟩), .string n, .int .i64 i, .int .i64 bit] w fun e w' => e = .returned (.int .i64 (spoErr R n i bit)) ∧ Rx Z p (spoD R n i bit) w w' := by
  have H := hid h; have HG := hid hg
  obtain ⟨lv, bv, LV, BV, h0⟩ := h
  have c0 := blk_cell h0.cell
  unfold rcs at c0
  obtain ⟨fo, hfo⟩ : ∃ fo, R.off = fo := ⟨_, rfl⟩
  have HFO := hid hfo
  rw [hfo] at c0
  clear hg h0 hfo
  cases fo with
  | true =>
    have HE := hid (show spoErr R n i bit = 9 ∧ spoD R n i bit = R by rw [spoErr, spoD, HFO.out]; exact ⟨rfl, rfl⟩)
    go_enter Try.func60, Try.ntmps60
    go_wp2_with fail
    go_ret
    rw [HE.out.1, HE.out.2]
    exact ⟨rfl, Rx.refl H.out (Kp.refl _ _)⟩
  | false =>
    obtain ⟨og, hog⟩ : ∃ og, aget R.F n = og := ⟨_, rfl⟩
    have HOG := hid hog
    clear hog
    cases og with
    | none =>
      have HKF := hid (findN_none' HOG.out)
      have d1 : decide ((-1 : Int) < 0) = true := by decide
      have HE := hid (show spoErr R n i bit = 4 ∧ spoD R n i bit = R by rw [spoErr, spoD, HFO.out, HOG.out]; exact ⟨rfl, rfl⟩)
      go_enter Try.func60, Try.ntmps60
      go_wp2_with fail
      refine (qfind_any Z p R n _ H.out HG.out.f).mono ?_
      rintro e w1 ⟨rfl, hk1⟩
      rw [HKF.out]
      have HK1 := hid hk1
      clear hk1
      go_wp2_with fail
      go_ret
      rw [HE.out.1, HE.out.2]
      exact ⟨rfl, Rx.refl H.out HK1.out⟩
    | some s =>
      obtain ⟨k, hk1, hk2⟩ := findN_some HG.out.nd HOG.out
      have HKF := hid hk1; have HKA := hid hk2
      have d1 : decide ((k : Int) < 0) = false := decide_eq_false (by omega)
      obtain ⟨sz, hsz⟩ : ∃ sz, s.length + moreOf R.B n = sz := ⟨_, rfl⟩
      have HSZ := hid hsz
      have hsz1 : sz ≤ 1000000000 := by
        have h1 := HG.out.s _ (List.mem_of_getElem? HKA.out)
        have h2 : moreOf R.B n ≤ pend R.B := mem_moreOf_le
        dsimp only at h1
        omega
      clear hk1 hk2 hsz
      by_cases e1 : i < 0
      · have b1 : decide (i < 0) = true := decide_eq_true e1
        have hq := show spoOut R n s i bit from .inl e1
        have HE := hid (show spoErr R n i bit = 6 ∧ spoD R n i bit = R by rw [spoErr, spoD, HFO.out, HOG.out]; exact ⟨if_pos hq, if_pos hq⟩)
        clear hq e1
        go_enter Try.func60, Try.ntmps60
        go_wp2_with fail
        refine (qfind_any Z p R n _ H.out HG.out.f).mono ?_
        rintro e w1 ⟨rfl, hk1⟩
        rw [HKF.out]
        have HK1 := hid hk1
        clear hk1
        go_wp2_with fail
        go_ret
        rw [HE.out.1, HE.out.2]
        exact ⟨rfl, Rx.refl H.out HK1.out⟩
      · have b1 : decide (i < 0) = false := decide_eq_false e1
        obtain ⟨at_, rfl⟩ : ∃ at_ : Nat, i = (at_ : Int) := ⟨i.toNat, by omega⟩
        clear e1
        have hcs : (¬ at_ < sz ∨ (at_ < sz ∧ bit < 0) ∨ (at_ < sz ∧ ¬ bit < 0 ∧ bit > 7)) ∨ (at_ < sz ∧ ¬ bit < 0 ∧ ¬ bit > 7) := by omega
        rcases hcs with hcs | hcs
        · have hq : spoOut R n s (at_ : Int) bit := by unfold spoOut; rw [HSZ.out]; omega
          have HE := hid (show spoErr R n at_ bit = 6 ∧ spoD R n at_ bit = R by rw [spoErr, spoD, HFO.out, HOG.out]; exact ⟨if_pos hq, if_pos hq⟩)
          clear hq
          obtain ⟨b2, hb2⟩ : ∃ b2, decide (sz ≤ at_) = b2 := ⟨_, rfl⟩
          obtain ⟨b3, hb3⟩ : ∃ b3, decide (bit < 0) = b3 := ⟨_, rfl⟩
          obtain ⟨b4, hb4⟩ : ∃ b4, decide (bit > 7) = b4 := ⟨_, rfl⟩
          have hor : b2 = true ∨ (b2 = false ∧ b3 = true) ∨ (b2 = false ∧ b3 = false ∧ b4 = true) := by
            rcases hcs with h | h | h
            · left; rw [← hb2]; exact decide_eq_true (by omega)
            · right; left; exact ⟨by rw [← hb2]; exact decide_eq_false (by omega), by rw [← hb3]; exact decide_eq_true h.2⟩
            · right; right; exact ⟨by rw [← hb2]; exact decide_eq_false (by omega), by rw [← hb3]; exact decide_eq_false h.2.1, by rw [← hb4]; exact decide_eq_true h.2.2⟩
          clear hcs
          have hor2 : (b2 = true ∨ (b2 = false ∧ b3 = true)) ∨ (b2 = false ∧ b3 = false ∧ b4 = true) := by rcases hor with h | h | h <;> simp [h]
          clear hor
          rcases hor2 with (rfl | ⟨rfl, rfl⟩) | ⟨rfl, rfl, rfl⟩
          all_goals (
            go_enter Try.func60, Try.ntmps60
            go_wp2_with fail
            refine (qfind_any Z p R n _ H.out HG.out.f).mono ?_
            rintro e w1 ⟨rfl, hk1⟩
            rw [HKF.out]
            have HK1 := hid hk1
            clear hk1
            go_wp2_with fail
            refine (qall_any Z p R k (n, s) _ (H.out.all HK1.out) HKA.out HG.out.f HG.out.b (by have := HG.out.s _ (List.mem_of_getElem? HKA.out); omega)).mono ?_
            rintro e w2 ⟨⟨v, rfl, h2⟩, k2⟩
            obtain ⟨VA, vc, rfl⟩ := own_shape h2
            have hlen : ((n, s).2 ++ pieces R.B (n, s).1).length = sz := by rw [List.length_append, pieces_len]; exact HSZ.out
            rw [hlen]
            have HK2 := hid k2
            clear h2 k2 hlen
            go_wp2_with fail
            go_ret
            rw [HE.out.1, HE.out.2]
            exact ⟨rfl, Rx.refl H.out (HK1.out.trans HK2.out)⟩)
        · obtain ⟨h1, h2, h3⟩ := hcs
          obtain ⟨bt, rfl⟩ : ∃ bt : Nat, bit = (bt : Int) := ⟨bit.toNat, by omega⟩
          have hbt : bt ≤ 7 := by omega
          have b2 : decide (sz ≤ at_) = false := decide_eq_false (by omega)
          have b3 : decide ((bt : Int) < 0) = false := decide_eq_false (by omega)
          have b4 : decide ((bt : Int) > 7) = false := decide_eq_false (by omega)
          have hq : ¬ spoOut R n s (at_ : Int) (bt : Int) := by unfold spoOut; rw [HSZ.out]; omega
          have HQ := hid hq
          obtain ⟨sl, hsl⟩ : ∃ sl, s.length = sl := ⟨_, rfl⟩
          have HSL := hid hsl
          clear hq hsl
          by_cases hlt : at_ < sl
          · have hd5 : decide (at_ < sl) = true := decide_eq_true hlt
            have HE := hid (show spoErr R n at_ bt = 0 ∧ spoD R n at_ bt = { R with F := flipF R.F n at_ bt } by rw [spoErr, spoD, HFO.out, HOG.out]; exact ⟨if_neg HQ.out, (if_neg HQ.out).trans (by rw [if_pos (by rw [HSL.out]; omega)]; rfl)⟩)
            go_enter Try.func60, Try.ntmps60
            go_wp2_with fail
            refine (qfind_any Z p R n _ H.out HG.out.f).mono ?_
            rintro e w1 ⟨rfl, hk1⟩
            rw [HKF.out]
            have HK1 := hid hk1
            clear hk1
            go_wp2_with fail
            refine (qall_any Z p R k (n, s) _ (H.out.all HK1.out) HKA.out HG.out.f HG.out.b (by have := HG.out.s _ (List.mem_of_getElem? HKA.out); omega)).mono ?_
            rintro e w2 ⟨⟨v, rfl, h2'⟩, k2⟩
            obtain ⟨VA, vc, rfl⟩ := own_shape h2'
            have hlen : ((n, s).2 ++ pieces R.B (n, s).1).length = sz := by rw [List.length_append, pieces_len]; exact HSZ.out
            rw [hlen]
            have HK2 := hid (HK1.out.trans k2)
            clear h2' hlen
            obtain ⟨lv2, bv2, LV2, BV2, hd2⟩ := H.out.all (HK1.out.trans k2)
            obtain ⟨LA, lc, rfl⟩ := own_shape hd2.fr
            obtain ⟨BA, bc, rfl⟩ := own_shape hd2.br
            obtain ⟨y, hy⟩ : ∃ y, LV2[k]? = some y := by
              have h1 := HKA.out
              rw [hd2.fe, nms_at] at h1
              cases hh : LV2[k]? with
              | none => rw [hh] at h1; cases h1
              | some x => exact ⟨x, rfl⟩
            have hye : y.1 = n ∧ y.2.1 = s := by
              have h1 := HKA.out
              rw [hd2.fe, nms_at, hy] at h1
              injection h1 with h1; injection h1 with h1 h2
              exact ⟨h1, h2⟩
            obtain ⟨fb, eLA, q0, q1, hlb⟩ := own_item hd2.fr rfl hy
            subst eLA
            have hyv := hd2.data _ (.inl (List.mem_of_getElem? hy))
            obtain ⟨yn, yb, yv⟩ := y
            obtain ⟨YA, yc, hyv', hYS⟩ := own_sl8 hyv
            dsimp only at hye q0 q1 hyv'
            obtain ⟨rfl, rfl⟩ := hye
            subst hyv'
            have HYS := hid hYS
            rw [HSL.out] at q1
            have HD2 := hid hd2; have HY := hid hy
            have c2 := blk_cell hd2.cell
            unfold rcs at c2
            have hkl : k < LV2.length := (List.getElem?_eq_some_iff.1 hy).1
            have i0 : (0 : Int) ≤ (k : Int) := by omega
            have i1 : (k : Int) < (LV2.length : Int) := by omega
            have a0 : (0 : Int) ≤ (at_ : Int) := by omega
            have a1 : (at_ : Int) < (sl : Int) := by omega
            clear k2 hd2 hy hyv hYS
            have hs2 : p < w2.heap.size := blk_lt HD2.out.cell
            have hsl9 : sl ≤ 1000000000 := by have := HSZ.out; have := HSL.out; omega
            have hyat : (u8s yb)[at_]? = some (.int .u8 (yb.getD at_ 0).toNat) := by
              rw [u8s, List.getElem?_map, List.getElem?_eq_getElem (by rw [HSL.out]; exact hlt), List.getD_eq_getElem?_getD, List.getElem?_eq_getElem (by rw [HSL.out]; exact hlt)]; rfl
            have HYA := hid hyat
            have HSY := hid (show Foot All (Sl YA sl yc 1 (u8s yb)) w2 by have h := HYS.out; rw [HSL.out] at h; exact h)
            clear hyat
            go_wp2_with (at_builtin; go_loud (refine wpList_app el8 (own_build0 (w := w2) (e := 5) (sz := 1) (base := w2.heap.size) (Nat.le_refl _)) (A := YA) (m := sl) (c := yc) (news := u8s yb) (HSY.out _ (Kp.al w2 _)) (u8s_one yb) ?_ (by simp) rfl _ _ rfl rfl rfl ?_); omega; intro v' wa howna hga hoba hnila; rw [Nat.zero_add, List.nil_append] at howna; have hka := (Kp.al w2 (.cells #[] 5)).then (Kp.grown hga) (fun i hi _ e => by simp [Value.ownBlock] at e; omega); have HKA' := hid hka; have HOA := hid howna; clear howna hga hoba hnila hka; (rcases own_at HOA.out with ⟨_, h0, _⟩ | ⟨g, gcap, gcur, eg, hg, _, hat⟩); exact absurd h0 (by omega); subst eg; have hgc := hat _ _ HYA.out; have hgf := fun i => HOA.out.frozenAt i; have hgn := (HOA.out.lt g rfl).1; have hca := blk_cell (HKA'.out.heap HD2.out.cell trivial); unfold rcs at hca; have hqa := HKA'.out.cell q1 trivial; have hfa := fun i => (own_kept HD2.out.fr HKA'.out (fun _ _ => trivial)).frozenAt i; clear hat hg)
            have hgl := HOA.out.lt
            go_wp2_with fail
            go_ret
            rw [HE.out.1, HE.out.2]
            refine ⟨rfl, Rx.pre HK2.out ?_⟩
            have hxv : bits .xor .u8 (((yb[at_]?.getD 0).toNat : Nat) : Int) (2 ^ bt % 256) = (((yb.getD at_ 0) ^^^ UInt8.ofNat (2 ^ bt)).toNat : Int) := xor_u8 _ _
            have hrow := (HOA.out.stored at_ (.int .u8 (((yb.getD at_ 0) ^^^ UInt8.ofNat (2 ^ bt)).toNat : Int))).1
            rw [hxv]
            rw [flipF_set HG.out.nd HKA.out]
            have hst := HD2.out.stored rfl HG.out.nd HY.out (flip yb at_ bt) (.slice (some ⟨g, 0, none⟩) sl gcap) (w' := wa.setCell ⟨g, at_, none⟩ (.int .u8 (((yb.getD at_ 0) ^^^ UInt8.ofNat (2 ^ bt)).toNat : Int))) (HKA'.out.setNew hgn _) (by rw [flip_len, HSL.out, flip, u8s, List.map_set]; exact hrow)
            exact hst.1
          · have hd5 : decide (at_ < sl) = false := decide_eq_false hlt
            have HE := hid (show spoErr R n at_ bt = 0 ∧ spoD R n at_ bt = { R with B := flipB n bt R.B (at_ - sl) } by rw [spoErr, spoD, HFO.out, HOG.out]; exact ⟨if_neg HQ.out, (if_neg HQ.out).trans (by rw [if_neg (by rw [HSL.out]; omega), HSL.out]; rfl)⟩)
            go_enter Try.func60, Try.ntmps60
            go_wp2_with fail
            refine (qfind_any Z p R n _ H.out HG.out.f).mono ?_
            rintro e w1 ⟨rfl, hk1⟩
            rw [HKF.out]
            have HK1 := hid hk1
            clear hk1
            go_wp2_with fail
            refine (qall_any Z p R k (n, s) _ (H.out.all HK1.out) HKA.out HG.out.f HG.out.b (by have := HG.out.s _ (List.mem_of_getElem? HKA.out); omega)).mono ?_
            rintro e w2 ⟨⟨v, rfl, h2'⟩, k2⟩
            obtain ⟨VA, vc, rfl⟩ := own_shape h2'
            have hlen : ((n, s).2 ++ pieces R.B (n, s).1).length = sz := by rw [List.length_append, pieces_len]; exact HSZ.out
            rw [hlen]
            have HK2 := hid (HK1.out.trans k2)
            clear h2' hlen
            obtain ⟨lv2, bv2, LV2, BV2, hd2⟩ := H.out.all (HK1.out.trans k2)
            obtain ⟨LA, lc, rfl⟩ := own_shape hd2.fr
            obtain ⟨BA, bc, rfl⟩ := own_shape hd2.br
            obtain ⟨y, hy⟩ : ∃ y, LV2[k]? = some y := by
              have h1 := HKA.out
              rw [hd2.fe, nms_at] at h1
              cases hh : LV2[k]? with
              | none => rw [hh] at h1; cases h1
              | some x => exact ⟨x, rfl⟩
            have hye : y.1 = n ∧ y.2.1 = s := by
              have h1 := HKA.out
              rw [hd2.fe, nms_at, hy] at h1
              injection h1 with h1; injection h1 with h1 h2
              exact ⟨h1, h2⟩
            obtain ⟨fb, eLA, q0, q1, hlb⟩ := own_item hd2.fr rfl hy
            subst eLA
            have hyv := hd2.data _ (.inl (List.mem_of_getElem? hy))
            obtain ⟨yn, yb, yv⟩ := y
            obtain ⟨YA, yc, hyv', hYS⟩ := own_sl8 hyv
            dsimp only at hye q0 q1 hyv'
            obtain ⟨rfl, rfl⟩ := hye
            subst hyv'
            have HYS := hid hYS
            rw [HSL.out] at q1
            have HD2 := hid hd2; have HY := hid hy
            have c2 := blk_cell hd2.cell
            unfold rcs at c2
            have hkl : k < LV2.length := (List.getElem?_eq_some_iff.1 hy).1
            have i0 : (0 : Int) ≤ (k : Int) := by omega
            have i1 : (k : Int) < (LV2.length : Int) := by omega
            have hwr : IntKind.i64.wrap ((at_ : Int) - (sl : Int)) = ((at_ - sl : Nat) : Int) := by rw [IntWalk.i64_in _ (by omega)]; omega
            clear k2 hd2 hy hyv hYS
            have hs2 : p < w2.heap.size := blk_lt HD2.out.cell
            obtain ⟨nb, hnb⟩ : ∃ nb, BV2.length = nb := ⟨_, rfl⟩
            have HNB := hid hnb
            have hnbl : nb ≤ 1000000 := by
              rw [← hnb]
              have h1 := HG.out.b
              rw [HD2.out.be, nms, List.length_map] at h1; exact h1
            rw [hnb] at c2
            have hsb : Foot All (Sl BA nb bc 2 (ncs BV2)) w2 := by
              have h := own_foot HD2.out.br
              rw [hnb] at h; exact h
            have HSB := hid hsb
            clear hsb hnb
            go_wp2_with (at_builtin; go_loud (refine wpList_app elW (own_build0 (w := w2) (e := 96) (sz := 2) (base := w2.heap.size) (Nat.le_refl _)) (A := BA) (m := nb) (c := bc) (news := ncs BV2) (HSB.out _ (Kp.al w2 _)) HD2.out.one.2 ?_ (by simp) rfl _ _ rfl rfl rfl ?_); omega; intro v' wa howna hga hoba hnila; rw [Nat.zero_add, List.nil_append] at howna; obtain ⟨CA, cc, rfl⟩ := own_shape howna; have hka := (Kp.al w2 (.cells #[] 96)).then (Kp.grown hga) (fun i hi _ e => by simp [Value.ownBlock] at e; omega); have HKA' := hid hka; have HOA := hid howna; clear howna hga hoba hnila hka)
            go_wp2_with fail
            obtain ⟨r0, hr0⟩ : ∃ r0, at_ - sl = r0 := ⟨_, rfl⟩
            have hr0l : r0 ≤ 1000000000 := by omega
            rw [hr0] at HE ⊢
            clear hwr hr0
            go_loopw [2, 101] (fun a i wr => ∃ (j r : Nat), j ≤ nb ∧ i = .int .i64 j ∧ a = .int .i64 r ∧ r ≤ 1000000000 ∧ Hid (flipB yn bt R.B r0 = R.B.take j ++ flipB yn bt (R.B.drop j) r) ∧ Hid (Kp All wa wr)) (fun _ i _ => nb - (intOf i).toNat)
            case atStart => exact ⟨0, r0, Nat.zero_le _, rfl, rfl, hr0l, hid (by simp), Kp.refl _ _⟩
            case round =>
              obtain ⟨j, r, hj, rfl, rfl, hr, hfl, hkp⟩ := hrel
              by_cases hjl : j < nb
              · have hb0 : decide ((j : Int) < (nb : Int)) = true := decide_eq_true (by omega)
                obtain ⟨x, hx⟩ : ∃ x, BV2[j]? = some x := ⟨_, List.getElem?_eq_getElem (by rw [HNB.out]; exact hjl)⟩
                have hbx : R.B[j]? = some (x.1, x.2.1) := by rw [HD2.out.be, nms_at, hx]; rfl
                have hrow := own_kept HOA.out hkp.out (fun _ _ => trivial)
                obtain ⟨cb, eCA, p0, p1, hcbl⟩ := own_item hrow HNB.out.symm hx
                have hkw : Kp All w2 wr := HKA'.out.trans hkp.out
                have hxv := own_kept (HD2.out.data _ (.inr (List.mem_of_getElem? hx))) hkw (fun _ _ => trivial)
                have hcb : w2.heap.size ≤ cb := (HOA.out.lt cb (by rw [eCA]; rfl)).1
                have HDR := hid (drop_at hbx)
                have HBX := hid hbx; have HX := hid hx; have HKW := hid hkw
                obtain ⟨z, zb, zv⟩ := x
                obtain ⟨XA, xc, hzv, hXS⟩ := own_sl8 hxv
                dsimp only at p0 p1 hzv
                subst hzv eCA
                obtain ⟨xl, hxl⟩ : ∃ xl, zb.length = xl := ⟨_, rfl⟩
                have HXL := hid hxl
                have HXS := hid hXS
                rw [hxl] at p1
                have j0 : (0 : Int) ≤ (j : Int) := by omega
                have j1 : (j : Int) < (nb : Int) := by omega
                clear hx hbx hrow hkw hxv hXS hxl
                by_cases he : z = yn
                · have hd0 : z.toList = yn.toList := by rw [he]
                  have hd1' : (z.toList == yn.toList) = true := by simp [he]
                  have hd : (z.toList != yn.toList) = false := by simp [he]
                  have HEZ := hid he
                  clear he
                  by_cases hrl : r < xl
                  · have hd6 : decide (r < xl) = true := decide_eq_true hrl
                    have hxl9 : xl ≤ 1000000000 := by
                      have h1 := le_pend (List.mem_of_getElem? HBX.out)
                      have h2 := HG.out.s _ (List.mem_of_getElem? HKA.out)
                      dsimp only at h1
                      rw [HXL.out] at h1
                      omega
                    have hzat : (u8s zb)[r]? = some (.int .u8 (zb.getD r 0).toNat) := by
                      rw [u8s, List.getElem?_map, List.getElem?_eq_getElem (by rw [HXL.out]; exact hrl), List.getD_eq_getElem?_getD, List.getElem?_eq_getElem (by rw [HXL.out]; exact hrl)]; rfl
                    have HZA := hid hzat
                    have HSX := hid (show Foot All (Sl XA xl xc 1 (u8s zb)) wr by have h := HXS.out; rw [HXL.out] at h; exact h)
                    have r0' : (0 : Int) ≤ (r : Int) := by omega
                    have r1' : (r : Int) < (xl : Int) := by omega
                    have hfc : ∀ i, wr.frozen? ⟨cb, i, none⟩ = false := fun i => (own_kept HOA.out hkp.out (fun _ _ => trivial)).frozenAt i
                    have hbp := HKW.out.heap HD2.out.cell trivial
                    have HBP := hid hbp
                    have how0 : ((wr.alloc (.cells #[.string z, .slice XA xl xc] 96)).alloc (.cells #[] 5)).ownsRow wr.heap.size 5 1 (.slice (some ⟨wr.heap.size + 1, 0, none⟩) 0 0) 0 [] := by
                      have h := own_build0 (w := wr.alloc (.cells #[.string z, .slice XA xl xc] 96)) (e := 5) (sz := 1) (base := wr.heap.size) (by simp)
                      rw [show (wr.alloc (.cells #[.string z, .slice XA xl xc] 96)).heap.size = wr.heap.size + 1 from by simp] at h
                      exact h
                    have HOW0 := hid how0
                    clear hzat hbp how0
                    go_wp2_with (at_builtin; go_loud (refine wpList_app el8 HOW0.out (A := XA) (m := xl) (c := xc) (news := u8s zb) (HSX.out _ ((Kp.al wr _).alloc _)) (u8s_one zb) ?_ (by simp; omega) rfl _ _ rfl rfl rfl ?_); omega; intro v' wb hownb hgb hobb hnilb; rw [Nat.zero_add, List.nil_append] at hownb; have hkb := ((Kp.al wr (.cells #[.string z, .slice XA xl xc] 96)).alloc (.cells #[] 5)).then (Kp.grown hgb) (fun i hi _ e => by simp [Value.ownBlock] at e; omega); have HKB' := hid hkb; have HOB := hid hownb; clear hownb hgb hobb hnilb; (rcases own_at HOB.out with ⟨_, h0, _⟩ | ⟨g, gcap, gcur, eg, hg, _, hat⟩); exact absurd h0 (by omega); subst eg; have hgc := hat _ _ HZA.out; have hgf := fun i => HOB.out.frozenAt i; have hgn := (HOB.out.lt g rfl).1; have hbb := blk_cell (hkb.heap HBP.out trivial); have hbf := blk_free (hkb.heap HBP.out trivial); unfold rcs at hbb; have hqb := hkb.cell p1 trivial; have hfb := fun i => (own_kept HOA.out (hkp.out.trans hkb) (fun _ _ => trivial)).frozenAt i; clear hat hg hkb)
                    go_wp2_with fail
                    go_ret
                    rw [HE.out.1, HE.out.2]
                    refine ⟨rfl, Rx.pre HK2.out ?_⟩
                    have hxv : bits .xor .u8 (((zb[r]?.getD 0).toNat : Nat) : Int) (2 ^ bt % 256) = (((zb.getD r 0) ^^^ UInt8.ofNat (2 ^ bt)).toNat : Int) := xor_u8 _ _
                    rw [hxv]
                    have hjB : j < R.B.length := (List.getElem?_eq_some_iff.1 HBX.out).1
                    have hfe : flipB yn bt R.B r0 = R.B.set j (z, flip zb r bt) := by
                      have h := hfl.out
                      rw [HDR.out, flipB, if_pos HEZ.out, if_pos (by rw [HXL.out]; exact hrl)] at h
                      rw [h, List.set_eq_take_append_cons_drop, if_pos hjB]
                    rw [hfe]
                    have hcg : ∀ i, (Value.slice (some ⟨cb, 0, none⟩) nb cc).ownBlock = some i → i ≠ g := fun i hi e => by injection hi with hi; simp only at hi; omega
                    have hgc2 : ∀ i, (Value.slice (some ⟨g, 0, none⟩) xl gcap).ownBlock = some i → i ≠ cb := fun i hi e => by injection hi with hi; simp only at hi; omega
                    have kG : Kp (fun i => i ≠ g) wb (wb.setCell ⟨g, r, none⟩ (.int .u8 (((zb.getD r 0) ^^^ UInt8.ofNat (2 ^ bt)).toNat : Int))) := (Kp.refl _ _).setOut (fun h => h rfl) _
                    have hrow1 := own_kept (own_kept HOA.out (hkp.out.trans HKB'.out) (fun _ _ => trivial)) kG hcg
                    have hrow2 := (hrow1.stored (j * 2 + 1) (.slice (some ⟨g, 0, none⟩) xl gcap)).1
                    have hv1 := (HOB.out.stored r (.int .u8 (((zb.getD r 0) ^^^ UInt8.ofNat (2 ^ bt)).toNat : Int))).1
                    have kC : Kp (fun i => i ≠ cb) (wb.setCell ⟨g, r, none⟩ (.int .u8 (((zb.getD r 0) ^^^ UInt8.ofNat (2 ^ bt)).toNat : Int))) ((wb.setCell ⟨g, r, none⟩ (.int .u8 (((zb.getD r 0) ^^^ UInt8.ofNat (2 ^ bt)).toNat : Int))).setCell ⟨cb, j * 2 + 1, none⟩ (.slice (some ⟨g, 0, none⟩) xl gcap)) := (Kp.refl _ _).setOut (fun h => h rfl) _
                    have hv2 := World.ownsRow.mono (own_kept hv1 kC hgc2) HKW.out.size
                    have hsw := HKW.out.size
                    have hka : Kp All w2 ((wb.setCell ⟨g, r, none⟩ (.int .u8 (((zb.getD r 0) ^^^ UInt8.ofNat (2 ^ bt)).toNat : Int))).setCell ⟨cb, j * 2 + 1, none⟩ (.slice (some ⟨g, 0, none⟩) xl gcap)) := ((HKW.out.trans HKB'.out).setNew (by omega) _).setNew hcb _
                    refine qspoil_end HD2.out hka HNB.out HX.out hrow2 ?_
                    rw [flip_len, HXL.out, flip, u8s, List.map_set]
                    exact hv2
                  · have hd6 : decide (r < xl) = false := decide_eq_false hrl
                    have hw6 : IntKind.i64.wrap ((r : Int) - (xl : Int)) = ((r - xl : Nat) : Int) := by rw [IntWalk.i64_in _ (by omega)]; omega
                    go_wp2_with fail
                    refine ⟨⟨j + 1, r - xl, by omega, by go_num, rfl, by omega, ?_, hid (hkp.out.alloc _)⟩, by simp [intOf]; omega⟩
                    have h := hfl.out
                    rw [HDR.out, flipB, if_pos HEZ.out, if_neg (by rw [HXL.out]; exact hrl)] at h
                    rw [h, List.take_add_one, HBX.out, HXL.out]
                    exact hid (by simp)
                · have hd0 := nm_ne he
                  have hd1' : (z.toList == yn.toList) = false := by simp [hd0]
                  have hd : (z.toList != yn.toList) = true := by simp [hd0]
                  have HEZ := hid he
                  clear he
                  go_wp2_with fail
                  refine ⟨⟨j + 1, r, by omega, by go_num, rfl, hr, ?_, hid (hkp.out.alloc _)⟩, by simp [intOf]; omega⟩
                  have h := hfl.out
                  rw [HDR.out, flipB, if_neg HEZ.out] at h
                  rw [h, List.take_add_one, HBX.out]
                  exact hid (by simp)
              · have hb0 : decide ((j : Int) < (nb : Int)) = false := decide_eq_false (by omega)
                obtain rfl : j = nb := by omega
                go_wp2_with fail
                go_ret
                rw [HE.out.1, HE.out.2]
                have hlen : R.B.length = j := by rw [HD2.out.be, nms, List.length_map]; exact HNB.out
                have h := hfl.out
                rw [List.drop_eq_nil_of_le (by omega), List.take_of_length_le (by omega), flipB, List.append_nil] at h
                rw [h]
                exact ⟨rfl, Rx.refl H.out (HK2.out.trans (HKA'.out.trans hkp.out))⟩
end Go.Proofs.Ytdlbccjimdghkaa
