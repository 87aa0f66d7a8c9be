/- The map's Put walked. No condition but that the map lies and is sound, and where the table of shifts lies. -/
import Derived.Test.YtodledidabdkaaaDoorVX
namespace Go.Proofs.YtodledidabdkaaaDoor
open Go.RowKit Go.Shelf V
set_option linter.unusedVariables false
set_option linter.unusedSimpArgs false
/-- A sound map lies at bm; O are its blocks. -/
structure Lm (k0 k1 bm : Nat) (M : Mp) (O : Nat → Prop) (w : World) : Prop where
  ms : ∃ bw cw bs cs, Ms k0 k1 bm bw cw bs cs M w ∧ ∀ b, O b ↔ b = bm ∨ b = bw ∨ b = bs
  inv : Inv (sipP k0 k1) M
  h0 : k0 < 18446744073709551616
  h1 : k1 < 18446744073709551616
  keys : ∀ k v, Has M k v → k.size ≤ 9000000000000000000
theorem Lm.lt {k0 k1 bm : Nat} {M : Mp} {O : Nat → Prop} {w : World} (h : Lm k0 k1 bm M O w) : ∀ b, O b → b < w.heap.size := by
  obtain ⟨bw, cw, bs, cs, hm, hO⟩ := h.ms
  obtain ⟨_, e1, _⟩ := hm.wds
  obtain ⟨_, e2, _⟩ := hm.sls
  intro b hb
  rcases (hO b).1 hb with rfl | rfl | rfl
  · exact blk_lt hm.str
  · exact blk_lt e1
  · exact blk_lt e2
theorem Lm.kept {k0 k1 bm : Nat} {M : Mp} {O S : Nat → Prop} {w w' : World} (h : Lm k0 k1 bm M O w) (k : Kp S w w') (hS : ∀ b, O b → S b) : Lm k0 k1 bm M O w' := by
  obtain ⟨bw, cw, bs, cs, hm, hO⟩ := h.ms
  exact { h with ms := ⟨bw, cw, bs, cs, hm.kept k (hS _ ((hO _).2 (.inl rfl))) (hS _ ((hO _).2 (.inr (.inl rfl)))) (hS _ ((hO _).2 (.inr (.inr rfl)))), hO⟩ }
theorem Lm.all {k0 k1 bm : Nat} {M : Mp} {O : Nat → Prop} {w w' : World} (h : Lm k0 k1 bm M O w) (k : Kp All w w') : Lm k0 k1 bm M O w' := h.kept k (fun _ _ => trivial)
theorem Lm.nog {k0 k1 bm : Nat} {M : Mp} {O : Nat → Prop} {w : World} (h : Lm k0 k1 bm M O w) : ¬ O 0 := by
  obtain ⟨bw, cw, bs, cs, hm, hO⟩ := h.ms
  intro e
  rcases (hO _).1 e with e | e | e
  · exact hm.z1 e.symm
  · exact hm.z2 e.symm
  · exact hm.z3 e.symm
/-- What a change of a map leaves. -/
def PutR (k0 k1 bm : Nat) (M' : Mp) (O : Nat → Prop) (w w' : World) : Prop := ∃ O', Lm k0 k1 bm M' O' w' ∧ (∀ b, b < w.heap.size → O' b → O b) ∧ Kp (fun b => ¬ O b) w w'
set_option maxRecDepth 100000 in
set_option maxHeartbeats 2000000 in
theorem mput_any (k0 k1 bm : Nat) (M : Mp) (O : Nat → Prop) (key v : ByteArray) (hkey : key.size ≤ 9000000000000000000) (w : World) (hgs : Gs w) (h : Lm k0 k1 bm M O w) :
    Calls Tryd.prog 15 #[.pointer (some ⟨bm, 0, none⟩), .string key, .string v] w fun e w' => e = .returned (.tuple #[.bool (putP (sipP k0 k1) M key v).2.1, .int .i64 ((putP (sipP k0 k1) M key v).2.2 : Nat)]) ∧ PutR k0 k1 bm (putP (sipP k0 k1) M key v).1 O w w' := by
  obtain ⟨bw, cw, bs, cs, hm, hO⟩ := h.ms
  have hI := h.inv
  have hP := hI.pm
  have hinv := put_inv hI key v
  have hLK : Hid (∀ k' v', Has (putP (sipP k0 k1) M key v).1 k' v' → k'.size ≤ 9000000000000000000) := hid fun k' v' hh => by
    rcases hinv.2 with ⟨e, _⟩ | ⟨_, _, _, e⟩
    · rw [e] at hh; exact h.keys _ _ hh
    · rcases (e _ _).1 hh with ⟨rfl, _⟩ | ⟨_, hh⟩
      · exact hkey
      · exact h.keys _ _ hh
  have HINV := hid hinv.1
  have HM := hid hm; have HI := hid hI; have HGS := hid hgs; have HOO := hid hO; have HP := hid hP; have HH := hid h
  have hg1 := hP.g1
  have hcn := hI.most
  have hro := hI.room
  have HMADE := hid (mmade_yes hg1.1 w hm)
  have HFIND := hid (find_any k0 k1 bm bw cw bs cs M hP h.h0 h.h1 key hkey w hm)
  have hdef : Hid (putP (sipP k0 k1) M key v = match findP (sipP k0 k1) M key with
    | some i => (setV M i v, true, 0)
    | none => if 2000 ≤ M.cnt then (M, false, 7) else (layP (sipP k0 k1) (if 7 * M.g ≤ M.cnt + M.tmb then rehashP (sipP k0 k1) M else M) (key, v), false, 0)) := hid rfl
  obtain ⟨PR, hPR⟩ : ∃ PR, putP (sipP k0 k1) M key v = PR := ⟨_, rfl⟩
  rw [hPR] at hLK HINV hdef ⊢
  clear hPR hm hI hgs hO hinv h hP
  cases hf : findP (sipP k0 k1) M key with
  | some i =>
    have hPRe : PR = (setV M i v, true, 0) := by rw [hdef.out, hf]
    subst hPRe
    rw [hf] at HFIND
    obtain ⟨v0, hFu⟩ := find_mem HI.out hf
    have hi : i < 8 * M.g := by have := hFu.lt; rw [HP.out.len] at this; exact this
    obtain ⟨_, _, _, hsl⟩ := hFu
    have HSL := hid hsl
    clear hsl hf hdef
    have d1 : decide ((0 : Int) ≤ (i : Int)) = true := decide_eq_true (by omega)
    have i0 : (0 : Int) ≤ (i : Int) := by omega
    have i1 : (i : Int) < 8 * (M.g : Int) := by omega
    go_enter Tryd.func15, Tryd.ntmps15
    go_wp2_with fail
    refine HMADE.out.mono ?_
    rintro e w1 ⟨rfl, hw⟩
    have hw := hw.symm
    subst hw
    go_wp2_with fail
    refine HFIND.out.mono ?_
    rintro e w2 ⟨rfl, hk⟩
    simp only [optV]
    have hM2 := HM.out.all hk
    have c2 := blk_cell hM2.str
    obtain ⟨_, s2⟩ := hM2.slot HP.out.slen hi
    have fs : ∀ x, w2.frozen? ⟨bs, x, none⟩ = false := by
      obtain ⟨_, e, _⟩ := hM2.sls
      exact blk_free e
    have HK := hid hk; have HM2 := hid hM2
    clear hk hM2
    go_wp2_with fail
    refine bodyPost_ret (v := .tuple #[.bool true, .int .i64 0]) (by simp [results, Tryd.results15, go_sem]) rfl ⟨rfl, O, ⟨⟨bw, cw, bs, cs, ?_, HOO.out⟩, HINV.out, HH.out.h0, HH.out.h1, hLK.out⟩, fun _ _ h => h, ?_⟩
    · have := HM2.out.setV HSL.out v
      unfold setV
      rw [getD_of HSL.out]
      exact this
    · exact (HK.out.all).setOut (fun h => h ((HOO.out _).2 (.inr (.inr rfl)))) _
  | none =>
    have hPRe : PR = if 2000 ≤ M.cnt then (M, false, 7) else (layP (sipP k0 k1) (if 7 * M.g ≤ M.cnt + M.tmb then rehashP (sipP k0 k1) M else M) (key, v), false, 0) := by rw [hdef.out, hf]
    rw [hf] at HFIND
    clear hf hdef
    have d1 : decide ((0 : Int) ≤ (-1 : Int)) = false := by decide
    by_cases h2 : 2000 ≤ M.cnt
    · rw [if_pos h2] at hPRe
      subst hPRe
      have d2 : decide ((2000 : Int) ≤ (M.cnt : Int)) = true := decide_eq_true (by omega)
      go_enter Tryd.func15, Tryd.ntmps15
      go_wp2_with fail
      refine HMADE.out.mono ?_
      rintro e w1 ⟨rfl, hw⟩
      have hw := hw.symm
      subst hw
      go_wp2_with fail
      refine HFIND.out.mono ?_
      rintro e w2 ⟨rfl, hk⟩
      simp only [optV]
      have hM2 := HM.out.all hk
      have c2 := blk_cell hM2.str
      have HK := hid hk
      clear hk hM2
      go_wp2_with fail
      exact bodyPost_ret (v := .tuple #[.bool false, .int .i64 7]) (by simp [results, Tryd.results15, go_sem]) rfl ⟨rfl, O, HH.out.all HK.out, fun _ _ h => h, HK.out.all⟩
    · rw [if_neg h2] at hPRe
      have d2 : decide ((2000 : Int) ≤ (M.cnt : Int)) = false := decide_eq_false (by omega)
      by_cases h3 : 7 * M.g ≤ M.cnt + M.tmb
      · rw [if_pos h3] at hPRe
        have d3 : decide (7 * (M.g : Int) ≤ (M.cnt : Int) + (M.tmb : Int)) = true := decide_eq_true (by omega)
        have hw1 : IntKind.i64.wrap ((M.cnt : Int) + (M.tmb : Int)) = (M.cnt : Int) + (M.tmb : Int) := IntWalk.i64_in _ (by omega)
        have hw2 : IntKind.i64.wrap (7 * (M.g : Int)) = 7 * (M.g : Int) := IntWalk.i64_in _ (by omega)
        go_enter Tryd.func15, Tryd.ntmps15
        go_wp2_with fail
        refine HMADE.out.mono ?_
        rintro e w1 ⟨rfl, hw⟩
        have hw := hw.symm
        subst hw
        go_wp2_with fail
        refine HFIND.out.mono ?_
        rintro e w2 ⟨rfl, hk⟩
        simp only [optV]
        have hM2 := HM.out.all hk
        have c2 := blk_cell hM2.str
        have HK := hid hk; have HM2 := hid hM2
        clear hk hM2
        go_wp2_with fail
        go_quiet (fail)
        rename_i nq
        have HG2 : Hid (Gs (w2.drewN nq)) := hid (HGS.out.all (HK.out.drewN nq))
        have hreh := rehash_inv HI.out h3 (by omega)
        obtain ⟨r1, r2, r3, r4, r5⟩ := hreh
        go_wp2_with fail
        refine (rehash_any k0 k1 bm bw cw bs cs M HH.out.h0 HH.out.h1 HI.out h3 (by omega) (fun s hs => HH.out.keys s.1 s.2 (mem_full.1 hs)) _ HG2.out (HM2.out.all ((Kp.refl _ _).drewN nq))).mono ?_
        rintro e w3 ⟨rfl, bw', cw', bs', cs', hM3, hnew, hK3⟩
        obtain ⟨R, hR⟩ : ∃ R, rehashP (sipP k0 k1) M = R := ⟨_, rfl⟩
        rw [hR] at hM3 r1 r2 r3 r4 r5 hPRe
        clear hR
        have hfr : layL R.ctrl (seqP (sipP k0 k1 key / 128) R.g) ≠ none := by
          obtain ⟨_, _, _, _, _, _, _, _, e, _⟩ := lay_at r1 (key, v)
          rw [e]; simp
        have hro2 := r1.room
        have hgg := r1.pm.g1
        have HL := hid (lay_any k0 k1 bm bw' cw' bs' cs' R r1.pm r1.bytes ⟨by omega, by omega⟩ HH.out.h0 HH.out.h1 key v hkey hfr w3 (HG2.out.kept hK3 (Ne.symm HM.out.z1)) hM3)
        have HNW := hid hnew; have HK3 := hid hK3
        clear hfr hM3 hnew hK3 r1 r2 r3 r4 r5
        go_wp2_with fail
        refine HL.out.mono ?_
        rintro e w4 ⟨rfl, hM4, hK4⟩
        have HM4 := hid hM4; have HK4 := hid hK4
        clear hM4 hK4
        subst hPRe
        go_wp2_with fail
        refine bodyPost_ret (v := .tuple #[.bool false, .int .i64 0]) (by simp [results, Tryd.results15, go_sem]) rfl ⟨rfl, fun b => b = bm ∨ b = bw' ∨ b = bs', ⟨⟨bw', cw', bs', cs', HM4.out, fun _ => Iff.rfl⟩, HINV.out, HH.out.h0, HH.out.h1, hLK.out⟩, fun b hb hO' => ?_, ?_⟩
        · have hb2 : b < (w2.drewN nq).heap.size := Nat.lt_of_lt_of_le hb HK.out.size
          by_cases e : b = bm
          · exact (HOO.out _).2 (.inl e)
          · have := HNW.out b hb2 e
            rcases hO' with e1 | e1 | e1
            · exact absurd e1 e
            · exact absurd e1 this.1
            · exact absurd e1 this.2
        · have k1 : Kp (fun b => b ≠ bm) w w3 := ((HK.out.drewN nq).all).then HK3.out (fun i hi h => h)
          have k2 : Kp (fun b => ¬ O b) w w3 := k1.mono (fun i hi h e => h ((HOO.out _).2 (.inl e)))
          exact k2.then HK4.out (fun i hi hO => by
            have e : i ≠ bm := fun e => hO ((HOO.out _).2 (.inl e))
            have := HNW.out i (Nat.lt_of_lt_of_le hi HK.out.size) e
            exact ⟨e, this.1, this.2⟩)
      · rw [if_neg h3] at hPRe
        have d3 : decide (7 * (M.g : Int) ≤ (M.cnt : Int) + (M.tmb : Int)) = false := decide_eq_false (by omega)
        have hw1 : IntKind.i64.wrap ((M.cnt : Int) + (M.tmb : Int)) = (M.cnt : Int) + (M.tmb : Int) := IntWalk.i64_in _ (by omega)
        have hw2 : IntKind.i64.wrap (7 * (M.g : Int)) = 7 * (M.g : Int) := IntWalk.i64_in _ (by omega)
        go_enter Tryd.func15, Tryd.ntmps15
        go_wp2_with fail
        refine HMADE.out.mono ?_
        rintro e w1 ⟨rfl, hw⟩
        have hw := hw.symm
        subst hw
        go_wp2_with fail
        refine HFIND.out.mono ?_
        rintro e w2 ⟨rfl, hk⟩
        simp only [optV]
        have hM2 := HM.out.all hk
        have c2 := blk_cell hM2.str
        have HK := hid hk; have HM2 := hid hM2
        clear hk hM2
        go_wp2_with fail
        go_quiet (fail)
        rename_i nq
        have hfr : layL M.ctrl (seqP (sipP k0 k1 key / 128) M.g) ≠ none := by
          obtain ⟨_, _, _, _, _, _, _, _, e, _⟩ := lay_at HI.out (key, v)
          rw [e]; simp
        have HL := hid (lay_any k0 k1 bm bw cw bs cs M HP.out HI.out.bytes ⟨by omega, by omega⟩ HH.out.h0 HH.out.h1 key v hkey hfr (w2.drewN nq) (HGS.out.all (HK.out.drewN nq)) (HM2.out.all ((Kp.refl _ _).drewN nq)))
        clear hfr
        go_wp2_with fail
        refine HL.out.mono ?_
        rintro e w4 ⟨rfl, hM4, hK4⟩
        have HM4 := hid hM4; have HK4 := hid hK4
        clear hM4 hK4
        subst hPRe
        go_wp2_with fail
        refine bodyPost_ret (v := .tuple #[.bool false, .int .i64 0]) (by simp [results, Tryd.results15, go_sem]) rfl ⟨rfl, O, ⟨⟨bw, cw, bs, cs, HM4.out, HOO.out⟩, HINV.out, HH.out.h0, HH.out.h1, hLK.out⟩, fun _ _ h => h, ?_⟩
        exact ((HK.out.drewN nq).all).then HK4.out (fun i hi hO => ⟨fun e => hO ((HOO.out _).2 (.inl e)), fun e => hO ((HOO.out _).2 (.inr (.inl e))), fun e => hO ((HOO.out _).2 (.inr (.inr e)))⟩)
end Go.Proofs.YtodledidabdkaaaDoor
