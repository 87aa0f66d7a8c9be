/- SessionMost: what Open and Expire do to the ids, in plain Lean, and the law's walk. No condition but that the ids lie as they were given. -/
import Derived.Test.YtkipijdbkkcioaaSJ
namespace Go.Proofs.Ytkipijdbkkcioaa
open Go.RowKit
set_option linter.unusedVariables false
set_option linter.unusedSimpArgs false
structure TI (T : List (Int × Int × RD)) : Prop where
  nd : (T.map (·.1)).Nodup
  pos : ∀ x ∈ T, 1 ≤ x.1 ∧ x.1 ≤ 9223372036854775807
  len : T.length ≤ 16
theorem aget_nil_iff {T : List (Int × Int × RD)} {id : Int} (h : aget T id = none) : id ∉ T.map (·.1) := by
  intro hm
  obtain ⟨x, hx, rfl⟩ := List.mem_map.1 hm
  unfold aget at h
  rw [Option.map_eq_none_iff, List.find?_eq_none] at h
  exact absurd (h x hx) (by simp)
theorem aset_new {T : List (Int × Int × RD)} {id : Int} {v : Int × RD} (h : aget T id = none) : aset T id v = T ++ [(id, v)] := by
  unfold aset
  rw [h]
  rfl
theorem TI.put {T : List (Int × Int × RD)} (h : TI T) {id : Int} {v : Int × RD} (h0 : aget T id = none) (h1 : 1 ≤ id) (h2 : id ≤ 9223372036854775807) (h3 : T.length < 16) : TI (aset T id v) := by
  rw [aset_new h0]
  refine ⟨?_, fun x hx => ?_, by simp; omega⟩
  · rw [List.map_append, List.nodup_append]
    refine ⟨h.nd, by simp, fun a ha b hb e => ?_⟩
    simp only [List.map_cons, List.map_nil, List.mem_singleton] at hb
    subst hb e
    exact aget_nil_iff h0 ha
  · rcases List.mem_append.1 hx with hx | hx
    · exact h.pos x hx
    · simp only [List.mem_singleton] at hx
      subst hx
      exact ⟨h1, h2⟩
theorem TI.open {T : List (Int × Int × RD)} (h : TI T) {id : Int} (h2 : id ≤ 9223372036854775807) : TI (openT T id) ∧ (openErr T id = 0 → (openT T id).length = T.length + 1) ∧ (openErr T id ≠ 0 → openT T id = T) ∧ (openErr T id = 7 → T.length = 16 ∧ aget T id = none ∧ 1 ≤ id) := by
  unfold openT openErr
  by_cases h1 : id < 1
  · simp only [if_pos h1]
    refine ⟨by simpa using h, (fun e => by simp at e), fun _ => by simp, (fun e => by simp at e)⟩
  · cases hf : aget T id with
    | some x =>
      simp only [if_neg h1, Option.isSome_some, if_true]
      refine ⟨by simpa using h, (fun e => by simp at e), fun _ => by simp, (fun e => by simp at e)⟩
    | none =>
      by_cases h3 : 16 ≤ T.length
      · simp only [if_neg h1, Option.isSome_none, Bool.false_eq_true, if_false, if_pos h3]
        have := h.len
        refine ⟨by simpa using h, (fun e => by simp at e), fun _ => by simp, fun _ => ⟨by omega, trivial, by omega⟩⟩
      · simp only [if_neg h1, Option.isSome_none, Bool.false_eq_true, if_false, if_neg h3, if_true]
        refine ⟨h.put hf (by omega) h2 (by omega), fun _ => by rw [aset_new hf]; simp, (fun e => absurd rfl e), (fun e => by simp at e)⟩
theorem adel_len1 {T : List (Int × Int × RD)} {id : Int} (hn : (T.map (·.1)).Nodup) (h : id ∈ T.map (·.1)) : (adel T id).length + 1 = T.length := by
  induction T with
  | nil => simp at h
  | cons x l ih =>
    simp only [List.map_cons, List.nodup_cons] at hn
    unfold adel at ih ⊢
    by_cases e : x.1 = id
    · rw [List.filter_cons_of_neg (by simpa using e)]
      have : l.filter (fun y => decide (y.1 ≠ id)) = l := by
        rw [List.filter_eq_self]
        intro y hy
        simpa using fun e2 : y.1 = id => hn.1 (by rw [e, ← e2]; exact List.mem_map.2 ⟨y, hy, rfl⟩)
      rw [this]
      rfl
    · have h2 : id ∈ l.map (·.1) := by
        simp only [List.map_cons, List.mem_cons] at h
        rcases h with h | h
        · exact absurd h.symm e
        · exact h
      rw [List.filter_cons_of_pos (by simpa using e), List.length_cons, ih hn.2 h2, List.length_cons]
theorem aget_mem_some {T : List (Int × Int × RD)} {id : Int} (h : id ∈ T.map (·.1)) : (aget T id).isSome = true := by
  cases hf : aget T id with
  | none => exact absurd h (aget_nil_iff hf)
  | some _ => rfl
theorem TI.exp {T : List (Int × Int × RD)} (h : TI T) {id : Int} (hm : id ∈ T.map (·.1)) : expErr T id = 0 ∧ expT T id = adel T id ∧ TI (adel T id) ∧ (adel T id).length + 1 = T.length := by
  have hs := aget_mem_some hm
  refine ⟨by rw [expErr, hs]; rfl, by rw [expT, hs]; rfl, ⟨?_, fun x hx => h.pos x (mem_adel hx), by have := adel_len1 h.nd hm; have := h.len; omega⟩, adel_len1 h.nd hm⟩
  unfold adel
  exact (List.Sublist.map _ List.filter_sublist).nodup h.nd
theorem TI.full {T : List (Int × Int × RD)} (h : TI T) {id g : Int} (h2 : id ≤ 9223372036854775807) (he : openErr T id = 7) (hm : g ∈ T.map (·.1)) : openErr (adel T g) id = 0 ∧ TI (openT (adel T g) id) := by
  obtain ⟨h16, h0, h1⟩ := (h.open h2).2.2.2 he
  obtain ⟨_, _, hti, hl⟩ := h.exp hm
  have h3 : aget (adel T g) id = none := by
    by_cases e : id = g
    · rw [e]; exact aget_adel_same _ _
    · rw [aget_adel_other _ _ _ e]; exact h0
  have h4 : openErr (adel T g) id = 0 := by
    unfold openErr
    rw [if_neg (by omega), h3]
    simp only [Option.isSome_none, Bool.false_eq_true, if_false]
    rw [if_neg (by omega)]
  exact ⟨h4, (hti.open h2).1⟩
theorem TI.wf {T : List (Int × Int × RD)} (h : TI T) : ∀ x ∈ T, (Lit.int .i64 x.1).wf = true := by
  intro x hx
  have := h.pos x hx
  have e1 : IntKind.i64.min = -9223372036854775808 := rfl
  have e2 : IntKind.i64.max = 9223372036854775807 := rfl
  simp only [Lit.wf, Bool.and_eq_true, decide_eq_true_eq]
  omega
/-- the ids, rising -/
theorem rise {T : List (Int × Int × RD)} (h : TI T) {ks : List Int} (hp : ks.Perm (T.map (·.1))) (hs : ks.Pairwise (· ≤ ·)) : (∀ x ∈ ks, 1 ≤ x) ∧ ks.Pairwise (· < ·) := by
  refine ⟨fun x hx => ?_, ?_⟩
  · obtain ⟨y, hy, rfl⟩ := List.mem_map.1 (hp.mem_iff.1 hx)
    exact (h.pos y hy).1
  · have hn : ks.Nodup := hp.nodup_iff.2 h.nd
    rw [List.Nodup] at hn
    exact (hs.and hn).imp fun h => by have := h.1; have := h.2; omega
theorem row_at {w : World} {base e n c : Nat} {A : Option Addr} {ks : List Int} (h : w.ownsRow base e 1 (.slice A n c) n (ks.map (Value.int .i64))) {k : Nat} {x : Int} (hk : ks[k]? = some x) : ∃ g, A = some ⟨g, 0, none⟩ ∧ w.cell? ⟨g, k, none⟩ = some (.int .i64 x) ∧ k < n := by
  have hl := h.1
  rw [List.length_map, Nat.mul_one] at hl
  have hkl := (List.getElem?_eq_some_iff.1 hk).1
  rcases own_at h with ⟨_, e, _⟩ | ⟨g, cap, cur, e1, hg, _, hat⟩
  · omega
  · injection e1 with e1 _ _
    exact ⟨g, e1, hat k _ (by rw [List.getElem?_map, hk]; rfl), by omega⟩
theorem own_kept {S : Nat → Prop} {w w' : World} {base e sz n : Nat} {v : Value} {xs : List Value} (h : w.ownsRow base e sz v n xs) (k : Kp S w w') (hs : ∀ b, v.ownBlock = some b → S b) : w'.ownsRow base e sz v n xs := by
  refine ⟨h.1, ?_⟩
  rcases h.2 with hn | ⟨g, cap, cur, rfl, hb, hg, rest⟩
  · exact .inl hn
  · exact .inr ⟨g, cap, cur, rfl, hb, k.heap hg (hs g rfl), rest⟩
/-- the law's world -/
structure SW (w0 w : World) (p m : Nat) (T : List (Int × Int × RD)) : Prop where
  tab : Tab (fun b => b ≠ m) w p m T
  kp : Kp All w0 w
  p0 : w0.heap.size ≤ p
  m0 : w0.heap.size ≤ m
theorem SW.all {w0 w w' : World} {p m : Nat} {T : List (Int × Int × RD)} (h : SW w0 w p m T) (k : Kp All w w') : SW w0 w' p m T := ⟨h.tab.all k, h.kp.trans k, h.p0, h.m0⟩
theorem SW.turn {w0 w w' : World} {p m : Nat} {T T' : List (Int × Int × RD)} (h : SW w0 w p m T) (h1 : Tab (fun b => b ≠ m) w' p m T') (k : Kp (fun b => b ≠ m) w w') : SW w0 w' p m T' := ⟨h1, h.kp.then k (fun i hi _ e => by have := h.m0; omega), h.p0, h.m0⟩
def Boo (b : Bool) (w : World) (e : Ending) (w' : World) : Prop := e = .returned (.bool b) ∧ Kp All w w'
set_option maxRecDepth 100000 in
set_option maxHeartbeats 4000000 in
theorem most_true (A : Option Addr) (c : Nat) (ids : List Int) (n : Nat) (hn : ids.length = n) (w : World) (hs : Foot All (Sl A n c 1 (ids.map (Value.int .i64))) w) (hl : n ≤ 140737488351232) (hf : ∀ x ∈ ids, x ≤ 9223372036854775807) :
    Calls Try.prog 4 #[.slice A n c] w (Boo true w) := by
  have HS := hid hs; have HN := hid hn; have HF := hid hf
  clear hs hn hf
  go_enter Try.func4, Try.ntmps4
  go_wp2_with fail
  refine (new_any w).mono ?_
  rintro e w1 ⟨⟨p, m, rfl, ht, hp, hm⟩, hk⟩
  have HW : Hid (SW w w1 p m []) := hid ⟨ht.mono (fun b _ h => h.elim), hk, hp, hm⟩
  clear ht hp hm hk
  by_cases h300 : 300 < n
  · have h3i : (300 : Int) < (n : Int) := by omega
    go_wp2_with fail
    refine (lives_any _).mono ?_
    rintro e w2 ⟨rfl, hk⟩
    have HK := hid hk
    clear hk
    go_wp2_with fail
    go_ret
    exact ⟨rfl, HW.out.kp.trans HK.out⟩
  have h3i : (n : Int) ≤ 300 := by omega
  have h3d : decide ((300 : Int) < (n : Int)) = false := decide_eq_false (by omega)
  go_wp2_with fail
  go_loopw [25] (fun kk wr => ∃ (k : Nat) (T : List (Int × Int × RD)), k ≤ n ∧ kk = .int .i64 k ∧ Hid (SW w wr p m T) ∧ Hid (TI T)) (fun kk _ => n - (intOf kk).toNat)
  case atStart => exact ⟨0, [], Nat.zero_le _, rfl, HW.out, ⟨by simp, by simp, by simp⟩⟩
  case round =>
    obtain ⟨k, T, hk, rfl, HW, HT⟩ := hrel
    by_cases hlt : k < n
    · have hb0 : decide ((k : Int) < (n : Int)) = true := decide_eq_true (by omega)
      have i0 : (0 : Int) ≤ (k : Int) := by omega
      have i1 : (k : Int) < (n : Int) := by omega
      obtain ⟨id, hid0⟩ : ∃ id, ids[k]? = some id := ⟨_, List.getElem?_eq_getElem (by rw [HN.out]; exact hlt)⟩
      have hidm := HF.out id (List.mem_of_getElem? hid0)
      obtain ⟨b, o, rfl, hr⟩ := (HS.out wr HW.out.kp).2.2 (by omega)
      have hc := hr k _ (by rw [List.getElem?_map, hid0]; rfl)
      obtain ⟨ht2, hle0, hle1, hle7⟩ := HT.out.open hidm
      have HT2 := hid ht2; have HL0 := hid hle0; have HL1 := hid hle1; have HL7 := hid hle7
      obtain ⟨ev, hev⟩ : ∃ ev, openErr T id = ev := ⟨_, rfl⟩
      have HEV := hid hev
      clear hr hid0 ht2 hle0 hle1 hle7 hev
      go_wp2_with fail
      refine (ids_any _ p m T HT.out.wf (by have := HT.out.len; omega) wr HW.out.tab).mono ?_
      rintro e w2 ⟨v1, ks1, rfl, hp1, _, hr1, hk1⟩
      obtain ⟨A1, c1, rfl⟩ := own_shape hr1
      have hl1 : ks1.length = T.length := by rw [hp1.length_eq, List.length_map]
      rw [hl1]
      have HW2 := hid (HW.out.all hk1)
      clear hp1 hr1 hk1 hl1
      go_wp2_with fail
      refine (open_any _ p m T id w2 HW2.out.tab (fun h => h rfl)).mono ?_
      rw [HEV.out]
      rintro e w3 ⟨rfl, ht3, hk3⟩
      have HW3 := hid (HW2.out.turn ht3 hk3)
      clear ht3 hk3
      go_wp2_with fail
      refine (ids_any _ p m (openT T id) HT2.out.wf (by have := HT2.out.len; omega) w3 HW3.out.tab).mono ?_
      rintro e w4 ⟨v2, ks, rfl, hp2, hs2, hr2, hk4⟩
      obtain ⟨A2, c2, rfl⟩ := own_shape hr2
      obtain ⟨hpos, hris⟩ := rise HT2.out hp2 hs2
      have hl2 : ks.length = (openT T id).length := by rw [hp2.length_eq, List.length_map]
      obtain ⟨L, hL⟩ : ∃ L, ks.length = L := ⟨_, rfl⟩
      rw [hL] at hr2 ⊢
      have hL2 : (openT T id).length = L := by rw [← hl2, hL]
      have hL16 : L ≤ 16 := by have := HT2.out.len; omega
      obtain ⟨L0, hL0⟩ : ∃ L0, T.length = L0 := ⟨_, rfl⟩
      have hL016 : L0 ≤ 16 := by have := HT.out.len; omega
      have HLL := hid hL; have HL2 := hid hL2; have HLZ := hid hL0
      have HR2 := hid hr2; have HPOS := hid hpos; have HRIS := hid hris; have HP2 := hid hp2
      have HW4 := hid (HW3.out.all hk4)
      have hm4 : ∀ b, (Value.slice A2 L c2).ownBlock = some b → b ≠ m := fun b hb e => by
        have h1 := (hr2.lt b hb).1
        have h2 := HW3.out.tab.map_lt
        omega
      have HM4 := hid hm4
      rw [hL0]
      have e16 : decide ((16 : Int) < (L : Int)) = false := decide_eq_false (by omega)
      have hne16 : ¬ (16 : Int) < (L : Int) := by omega
      clear hp2 hs2 hr2 hk4 hpos hris hl2 hL hL2 hL0 hm4
      by_cases hev0 : ev = 0
      · subst hev0
        have hLL0 : L = L0 + 1 := by rw [← HL2.out, ← HLZ.out]; exact HL0.out HEV.out
        have q0 : ((L : Int) == (L0 : Int) + 1) = true := beq_iff_eq.2 (by omega)
        clear hLL0
        go_wp2_with fail
        go_loopw [60] (fun ii w' => ∃ i : Nat, i ≤ L ∧ ii = .int .i64 i ∧ Hid (Kp All w4 w')) (fun ii _ => L - (intOf ii).toNat)
        case atStart => exact ⟨0, Nat.zero_le _, rfl, Kp.refl _ _⟩
        case round =>
          obtain ⟨i, hi, rfl, hkw⟩ := hrel
          by_cases hil : i < L
          · have hb1 : decide ((i : Int) < (L : Int)) = true := decide_eq_true (by omega)
            have j0 : (0 : Int) ≤ (i : Int) := by omega
            have j1 : (i : Int) < (L : Int) := by omega
            obtain ⟨x, hx⟩ : ∃ x, ks[i]? = some x := ⟨_, List.getElem?_eq_getElem (by rw [HLL.out]; exact hil)⟩
            have hrw := own_kept HR2.out hkw.out (fun _ _ => trivial)
            obtain ⟨g, rfl, hcx, _⟩ := row_at hrw hx
            have hx1 := HPOS.out x (List.mem_of_getElem? hx)
            have d1 : decide (x < 1) = false := decide_eq_false (by omega)
            have d1' : ¬ x < 1 := by omega
            rcases Nat.eq_zero_or_pos i with rfl | hip
            · clear hx hrw
              go_wp2_with fail
              go_quiet (fail)
              go_wp2_with fail
              exact ⟨⟨1, by omega, by go_num, hkw.out.drewN _⟩, by simp [intOf]; omega⟩
            · obtain ⟨i', rfl⟩ : ∃ i', i = i' + 1 := ⟨i - 1, by omega⟩
              obtain ⟨y, hy⟩ : ∃ y, ks[i']? = some y := ⟨_, List.getElem?_eq_getElem (by rw [HLL.out]; omega)⟩
              obtain ⟨_, e9, hcy, _⟩ := row_at hrw hy
              injection e9 with e9
              injection e9 with e9 _ _
              subst e9
              have hyx : y < x := by
                have h1 := HRIS.out
                rw [List.pairwise_iff_getElem] at h1
                obtain ⟨q1, q2⟩ := List.getElem?_eq_some_iff.1 hx
                obtain ⟨q3, q4⟩ := List.getElem?_eq_some_iff.1 hy
                have := h1 i' (i' + 1) q3 q1 (by omega)
                rw [q2, q4] at this
                exact this
              have d2 : decide (x ≤ y) = false := decide_eq_false (by omega)
              have d2' : ¬ x ≤ y := by omega
              have d3 : (0 : Int) < (i' : Int) + 1 := by omega
              have d3' : decide ((0 : Int) < (i' : Int) + 1) = true := decide_eq_true (by omega)
              have s0 : IntKind.i64.wrap ((i' : Int) + 1 - 1) = (i' : Int) := by rw [show (i' : Int) + 1 - 1 = (i' : Int) from by omega]; exact IntWalk.i64_in _ (by omega)
              have s1 : (0 : Int) ≤ (i' : Int) := by omega
              have s2 : (i' : Int) < (L : Int) := by omega
              have s3 : (i' : Int) + 1 - 1 = (i' : Int) := by omega
              clear hx hy hrw
              go_wp2_with fail
              go_quiet (fail)
              go_wp2_with fail
              exact ⟨⟨i' + 1 + 1, by omega, by go_num, hkw.out.drewN _⟩, by simp [intOf]; omega⟩
          · have hb1 : decide ((i : Int) < (L : Int)) = false := decide_eq_false (by omega)
            have HW5 := hid (HW4.out.all hkw.out)
            go_wp2_with fail
            exact ⟨⟨k + 1, openT T id, by omega, by go_num, HW5.out, HT2.out⟩, by simp [intOf]; omega⟩
      · have hLL0 : L = L0 := by rw [← HL2.out, ← HLZ.out, HL1.out (by rw [HEV.out]; exact hev0)]
        subst hLL0
        have q0 : ((L : Int) == (L : Int) + 1) = false := beq_eq_false_iff_ne.2 (by omega)
        have q1 : (ev == 0) = false := beq_eq_false_iff_ne.2 hev0
        clear hev0
        by_cases hev7 : ev = 7
        · subst hev7
          obtain rfl : L = 16 := by rw [← HLZ.out]; exact (HL7.out HEV.out).1
          go_wp2_with fail
          go_loopw [60] (fun ii w' => ∃ i : Nat, i ≤ 16 ∧ ii = .int .i64 i ∧ Hid (Kp All w4 w')) (fun ii _ => 16 - (intOf ii).toNat)
          case atStart => exact ⟨0, Nat.zero_le _, rfl, Kp.refl _ _⟩
          case round =>
            obtain ⟨i, hi, rfl, hkw⟩ := hrel
            by_cases hil : i < 16
            · have hb1 : decide ((i : Int) < ((16 : Nat) : Int)) = true := decide_eq_true (by omega)
              have j0 : (0 : Int) ≤ (i : Int) := by omega
              have j1 : (i : Int) < ((16 : Nat) : Int) := by omega
              obtain ⟨x, hx⟩ : ∃ x, ks[i]? = some x := ⟨_, List.getElem?_eq_getElem (by rw [HLL.out]; exact hil)⟩
              have hrw := own_kept HR2.out hkw.out (fun _ _ => trivial)
              obtain ⟨g, rfl, hcx, _⟩ := row_at hrw hx
              have hx1 := HPOS.out x (List.mem_of_getElem? hx)
              have d1 : decide (x < 1) = false := decide_eq_false (by omega)
              have d1' : ¬ x < 1 := by omega
              rcases Nat.eq_zero_or_pos i with rfl | hip
              · clear hx hrw
                go_wp2_with fail
                go_quiet (fail)
                go_wp2_with fail
                exact ⟨⟨1, by omega, by go_num, hkw.out.drewN _⟩, by simp [intOf]⟩
              · obtain ⟨i', rfl⟩ : ∃ i', i = i' + 1 := ⟨i - 1, by omega⟩
                obtain ⟨y, hy⟩ : ∃ y, ks[i']? = some y := ⟨_, List.getElem?_eq_getElem (by rw [HLL.out]; omega)⟩
                obtain ⟨_, e9, hcy, _⟩ := row_at hrw hy
                injection e9 with e9
                injection e9 with e9 _ _
                subst e9
                have hyx : y < x := by
                  have h1 := HRIS.out
                  rw [List.pairwise_iff_getElem] at h1
                  obtain ⟨q1, q2⟩ := List.getElem?_eq_some_iff.1 hx
                  obtain ⟨q3, q4⟩ := List.getElem?_eq_some_iff.1 hy
                  have := h1 i' (i' + 1) q3 q1 (by omega)
                  rw [q2, q4] at this
                  exact this
                have d2 : decide (x ≤ y) = false := decide_eq_false (by omega)
                have d2' : ¬ x ≤ y := by omega
                have d3 : (0 : Int) < (i' : Int) + 1 := by omega
                have d3' : decide ((0 : Int) < (i' : Int) + 1) = true := decide_eq_true (by omega)
                have s0 : IntKind.i64.wrap ((i' : Int) + 1 - 1) = (i' : Int) := by rw [show (i' : Int) + 1 - 1 = (i' : Int) from by omega]; exact IntWalk.i64_in _ (by omega)
                have s1 : (0 : Int) ≤ (i' : Int) := by omega
                have s2 : (i' : Int) < ((16 : Nat) : Int) := by omega
                have s3 : (i' : Int) + 1 - 1 = (i' : Int) := by omega
                clear hx hy hrw
                go_wp2_with fail
                go_quiet (fail)
                go_wp2_with fail
                exact ⟨⟨i' + 1 + 1, by omega, by go_num, hkw.out.drewN _⟩, by simp [intOf]; omega⟩
            · have hb1 : decide ((i : Int) < ((16 : Nat) : Int)) = false := decide_eq_false (by omega)
              have HW5 := hid (HW4.out.all hkw.out)
              have hT2 : openT T id = T := HL1.out (by rw [HEV.out]; decide)
              obtain ⟨x, hx⟩ : ∃ x, ks[0]? = some x := ⟨_, List.getElem?_eq_getElem (by rw [HLL.out]; omega)⟩
              have hrw := own_kept HR2.out hkw.out (fun _ _ => trivial)
              obtain ⟨g, rfl, hcx, _⟩ := row_at hrw hx
              have hxm : x ∈ T.map (·.1) := by
                have h1 := HP2.out.mem_iff.1 (List.mem_of_getElem? hx)
                rw [hT2] at h1
                exact h1
              obtain ⟨q1, q2, q3, q4⟩ := HT.out.exp hxm
              obtain ⟨q5, q6⟩ := HT.out.full hidm HEV.out hxm
              have htab := HW5.out.tab
              rw [hT2] at htab
              have HTAB := hid htab
              have Q1 := hid q1; have Q2 := hid q2; have Q5 := hid q5; have Q6 := hid q6
              have z0 : (0 : Int) < ((16 : Nat) : Int) := by omega
              clear hx hrw hxm q1 q2 q3 q4 q5 q6 htab hT2
              go_wp2_with fail
              refine (expire_any _ p m T x wr HTAB.out (fun h => h rfl)).mono ?_
              rw [Q1.out, Q2.out]
              rintro e w6 ⟨rfl, ht6, hk6⟩
              have HW6 := hid (HW5.out.turn ht6 hk6)
              clear ht6 hk6
              go_wp2_with fail
              refine (open_any _ p m _ id w6 HW6.out.tab (fun h => h rfl)).mono ?_
              rw [Q5.out]
              rintro e w7 ⟨rfl, ht7, hk7⟩
              have HW7 := hid (HW6.out.turn ht7 hk7)
              clear ht7 hk7
              go_wp2_with fail
              exact ⟨⟨k + 1, _, by omega, by go_num, HW7.out, Q6.out⟩, by simp [intOf]; omega⟩
        · have q7 : (ev == 7) = false := beq_eq_false_iff_ne.2 hev7
          clear hev7
          go_wp2_with fail
          go_loopw [60] (fun ii w' => ∃ i : Nat, i ≤ L ∧ ii = .int .i64 i ∧ Hid (Kp All w4 w')) (fun ii _ => L - (intOf ii).toNat)
          case atStart => exact ⟨0, Nat.zero_le _, rfl, Kp.refl _ _⟩
          case round =>
            obtain ⟨i, hi, rfl, hkw⟩ := hrel
            by_cases hil : i < L
            · have hb1 : decide ((i : Int) < (L : Int)) = true := decide_eq_true (by omega)
              have j0 : (0 : Int) ≤ (i : Int) := by omega
              have j1 : (i : Int) < (L : Int) := by omega
              obtain ⟨x, hx⟩ : ∃ x, ks[i]? = some x := ⟨_, List.getElem?_eq_getElem (by rw [HLL.out]; exact hil)⟩
              have hrw := own_kept HR2.out hkw.out (fun _ _ => trivial)
              obtain ⟨g, rfl, hcx, _⟩ := row_at hrw hx
              have hx1 := HPOS.out x (List.mem_of_getElem? hx)
              have d1 : decide (x < 1) = false := decide_eq_false (by omega)
              have d1' : ¬ x < 1 := by omega
              rcases Nat.eq_zero_or_pos i with rfl | hip
              · clear hx hrw
                go_wp2_with fail
                go_quiet (fail)
                go_wp2_with fail
                exact ⟨⟨1, by omega, by go_num, hkw.out.drewN _⟩, by simp [intOf]; omega⟩
              · obtain ⟨i', rfl⟩ : ∃ i', i = i' + 1 := ⟨i - 1, by omega⟩
                obtain ⟨y, hy⟩ : ∃ y, ks[i']? = some y := ⟨_, List.getElem?_eq_getElem (by rw [HLL.out]; omega)⟩
                obtain ⟨_, e9, hcy, _⟩ := row_at hrw hy
                injection e9 with e9
                injection e9 with e9 _ _
                subst e9
                have hyx : y < x := by
                  have h1 := HRIS.out
                  rw [List.pairwise_iff_getElem] at h1
                  obtain ⟨q1, q2⟩ := List.getElem?_eq_some_iff.1 hx
                  obtain ⟨q3, q4⟩ := List.getElem?_eq_some_iff.1 hy
                  have := h1 i' (i' + 1) q3 q1 (by omega)
                  rw [q2, q4] at this
                  exact this
                have d2 : decide (x ≤ y) = false := decide_eq_false (by omega)
                have d2' : ¬ x ≤ y := by omega
                have d3 : (0 : Int) < (i' : Int) + 1 := by omega
                have d3' : decide ((0 : Int) < (i' : Int) + 1) = true := decide_eq_true (by omega)
                have s0 : IntKind.i64.wrap ((i' : Int) + 1 - 1) = (i' : Int) := by rw [show (i' : Int) + 1 - 1 = (i' : Int) from by omega]; exact IntWalk.i64_in _ (by omega)
                have s1 : (0 : Int) ≤ (i' : Int) := by omega
                have s2 : (i' : Int) < (L : Int) := by omega
                have s3 : (i' : Int) + 1 - 1 = (i' : Int) := by omega
                clear hx hy hrw
                go_wp2_with fail
                go_quiet (fail)
                go_wp2_with fail
                exact ⟨⟨i' + 1 + 1, by omega, by go_num, hkw.out.drewN _⟩, by simp [intOf]; omega⟩
            · have hb1 : decide ((i : Int) < (L : Int)) = false := decide_eq_false (by omega)
              have HW5 := hid (HW4.out.all hkw.out)
              go_wp2_with fail
              exact ⟨⟨k + 1, openT T id, by omega, by go_num, HW5.out, HT2.out⟩, by simp [intOf]; omega⟩
    · have hb0 : decide ((k : Int) < (n : Int)) = false := decide_eq_false (by omega)
      go_wp2_with fail
      refine (lives_any _).mono ?_
      rintro e w2 ⟨rfl, hk⟩
      have HK := hid hk
      clear hk
      go_wp2_with fail
      go_ret
      exact ⟨rfl, HW.out.kp.trans HK.out⟩
end Go.Proofs.Ytkipijdbkkcioaa
