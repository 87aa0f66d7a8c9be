/- Plain: SnapWhole: wherever the power fails in a Save, what Load finds. No condition. The law SnapWhole: walked once. No condition but that the snapshots lie and where the library's tables lie. -/
import Derived.Test.YtbkhademplgicaaGreatDoorM15
import Derived.Test.YtbkhademplgicaaGreatDoorM16
import Derived.Test.YtbkhademplgicaaGreatDoorM17
set_option linter.unusedVariables false
set_option linter.unusedSimpArgs false
namespace Go.Proofs.YtbkhademplgicaaGreatDoor
open Go.RowKit
set_option linter.unusedVariables false
set_option linter.unusedSimpArgs false
def D0w : DS := ⟨1048576, false, 0, 0, 0, [], []⟩
/-- What is loaded, by the first answer and the second. -/
def Cs (a b : Sn) (f1 r2 : Int) (lo : Option Sn) : Prop :=
  (lo = none ∧ f1 ≠ 0 ∧ r2 ≠ 0) ∨ (lo = some a ∧ f1 = 0 ∧ r2 ≠ 0) ∨ (lo = some b ∧ f1 = 0 ∧ r2 = 9) ∨ (lo = some b ∧ r2 = 0) ∨ (lo = some a ∧ f1 = 0 ∧ r2 = 0 ∧ b.index < a.index)
theorem file_inj {a b : Sn} (ha : Sv a) (hb : Sv b) (h : fileOf a = fileOf b) : a = b := by
  injection h with _ h
  have h1 := joinP_whole ha.i ha.g
  rw [h, joinP_whole hb.i hb.g] at h1
  injection h1 with h1
  exact h1.symm
theorem Sv.len {a : Sn} (h : Sv a) : (wholeB a).length ≤ 4000000 := (chunks_small h.g).2
def FilesOk (F : List (Nm × By)) : Prop := ∀ y ∈ F, y.1 = freshN ∨ y.2.length ≤ 4000000
theorem files_load {E : DS} (h1 : E.off = false) (hB : E.B = []) (hF : FilesOk E.F) : ∀ m ∈ idxP E, (readB E (snName m)).length ≤ 4000000 := by
  intro m hm
  obtain ⟨h2, h3, h4⟩ := idxP_mem hm
  cases hg : aget E.F (snName m) with
  | none => exact absurd h4 (aget_none hg)
  | some s =>
    rw [readB_at h1 hB hg]
    rcases hF _ (aget_mem hg) with h | h
    · exact absurd h (snName_fresh h2 h3)
    · exact h
theorem first_save {a : Sn} (ia : SnI a) : ∃ f1 D1, saveP D0w a = (f1, D1) ∧ D1.off = false ∧ D1.B = [] ∧ D1.blocks = 1048576 ∧ Rm 4000 4 D1 ∧ D1.fails ≤ 0 ∧ ((f1 = 0 ∧ Sv a ∧ D1.F = [fileOf a]) ∨ (f1 ≠ 0 ∧ ¬ Sv a ∧ D1.F = [])) := by
  have r0 : Rm 6000 0 D0w := ⟨by simp [D0w], by simp [D0w], by simp [D0w], by simp [D0w], fun x hx => (by cases hx), Nat.le_refl _⟩
  by_cases hs : Sv a
  · have hl := hs.len
    rcases save_out (D := D0w) (b := a) rfl rfl (.inl rfl) hs (by
      have u0 : usedOf D0w.F [] = 0 := rfl
      have b0 : D0w.blocks = 1048576 := rfl
      rw [u0, b0]; unfold needs; omega) with ⟨h, _⟩ | ⟨a1, a2, a3, a4, a5, a6⟩
    · exact absurd h (by decide)
    have r1 := r0.save (k := 4000) (by omega) rfl hs.g hs.m
    refine ⟨(saveP D0w a).1, (saveP D0w a).2, rfl, a2, a4, a5, r1.mono (Nat.le_refl _) (by omega), a6 (Int.le_refl _), .inl ⟨a1, hs, ?_⟩⟩
    rcases a3 with ⟨h, _⟩ | ⟨a', _, h, _⟩
    · exact h
    · cases h
  · have e : saveP D0w a = (2, D0w) := by
      unfold saveP
      rw [if_neg (by simp [D0w]), if_pos]
      by_cases hg : goodSnap a = true
      · right
        by_cases hm : a.index ≤ 999999999
        · exact absurd ⟨ia, hg, hm⟩ hs
        · omega
      · left; simpa using hg
    exact ⟨2, D0w, e, rfl, rfl, rfl, r0.mono (by omega) (by omega), Int.le_refl _, .inr ⟨by decide, hs, rfl⟩⟩
theorem sv_dec {a : Sn} (ia : SnI a) : Sv a ↔ (goodSnap a && decide (a.index ≤ 999999999)) = true := by
  rw [Bool.and_eq_true, decide_eq_true_eq]
  exact ⟨fun h => ⟨h.g, h.m⟩, fun h => ⟨ia, h.1, h.2⟩⟩
theorem whole_cases (a b : Sn) (n k : Int) (hn : n ≤ 16) (ia : SnI a) (ib : SnI b) :
    ∃ f1 D1 r2 D3, saveP D0w a = (f1, D1) ∧ saveP (armD D1 n k) b = (r2, D3) ∧ D1.off = false ∧ (f1 = 0 ↔ (goodSnap a && decide (a.index ≤ 999999999)) = true) ∧ Rm 2000 4 (armD D1 n k) ∧ Rm 0 6 D3 ∧ D3.B = [] ∧
      ∀ E : DS, E.off = false → E.B = [] → E.F = D3.F → Cs a b f1 r2 (loadP E) ∧ ∀ m ∈ idxP E, (readB E (snName m)).length ≤ 4000000 := by
  obtain ⟨f1, D1, e1, o1, b1, bl1, r1, fa1, hc⟩ := first_save ia
  have ho : OneF D1.F := by
    rcases hc with ⟨_, hs, h⟩ | ⟨_, _, h⟩
    · exact .inr ⟨a, hs, h⟩
    · exact .inl h
  have hfirst : (f1 = 0 ↔ (goodSnap a && decide (a.index ≤ 999999999)) = true) := by
    rw [← sv_dec ia]
    rcases hc with ⟨h, hs, _⟩ | ⟨h, hs, _⟩
    · exact ⟨fun _ => hs, fun _ => h⟩
    · exact ⟨fun e => absurd e h, fun e => absurd e hs⟩
  obtain ⟨D2, hD2⟩ : ∃ D2, armD D1 n k = D2 := ⟨_, rfl⟩
  have hA : armD D1 n k = { D1 with fails := n, keep := k } := by unfold armD; rw [if_neg (by simp [o1])]
  have f2 : D2.F = D1.F := by rw [← hD2, hA]
  have o2 : D2.off = false := by rw [← hD2, hA]; exact o1
  have b2 : D2.B = [] := by rw [← hD2, hA]; exact b1
  have bl2 : D2.blocks = 1048576 := by rw [← hD2, hA]; exact bl1
  have r2 : Rm 4000 4 D2 := by
    rw [← hD2, hA]
    exact ⟨r1.o0, r1.o1, by show n ≤ _; omega, r1.bl, r1.nm, r1.fl⟩
  -- what lies on the disk with one file more, or none
  have base : ∀ E : DS, E.off = false → E.B = [] → ∀ r2 : Int, r2 ≠ 0 → (E.F = D1.F ∨ ∃ t, E.F = D1.F ++ [(freshN, t)]) → Cs a b f1 r2 (loadP E) := by
    intro E eo eb r2 hr hF
    rcases hc with ⟨h1, hs, h2⟩ | ⟨h1, hs, h2⟩
    · rw [h2] at hF
      exact .inr (.inl ⟨load_one hs eo eb hF, h1, hr⟩)
    · rw [h2] at hF
      exact .inl ⟨load_none hF, h1, hr⟩
  have baseF : ∀ F, (F = D1.F ∨ ∃ t, F = D1.F ++ [(freshN, t)]) → FilesOk F := by
    intro F hF
    have h0 : FilesOk D1.F := by
      rcases hc with ⟨h1, hs, h2⟩ | ⟨h1, hs, h2⟩
      · rw [h2]; intro y hy; rw [List.mem_singleton.1 hy]; exact .inr hs.len
      · rw [h2]; intro y hy; cases hy
    rcases hF with rfl | ⟨t, rfl⟩
    · exact h0
    · intro y hy
      rcases List.mem_append.1 hy with hy | hy
      · exact h0 y hy
      · rw [List.mem_singleton.1 hy]; exact .inl rfl
  by_cases hb : Sv b
  case neg =>
    have e : saveP D2 b = (2, D2) := by
      unfold saveP
      rw [if_neg (by simp [o2]), if_pos]
      by_cases hg : goodSnap b = true
      · right
        by_cases hm : b.index ≤ 999999999
        · exact absurd ⟨ib, hg, hm⟩ hb
        · omega
      · left; simpa using hg
    refine ⟨f1, D1, 2, D2, e1, by rw [hD2]; exact e, o1, hfirst, by rw [hD2]; exact r2.mono (by omega) (by omega), r2.mono (by omega) (by omega), b2, fun E eo eb eF => ?_⟩
    rw [f2] at eF
    exact ⟨base E eo eb 2 (by decide) (.inl eF), files_load eo eb (baseF _ (.inl eF))⟩
  have hl := hb.len
  have hroom : ((usedOf D2.F [] + needs (wholeB b).length : Nat) : Int) ≤ D2.blocks := by
    rw [bl2, f2]
    have hu : usedOf D1.F [] ≤ 100000 := by
      rcases hc with ⟨h1, hs, h2⟩ | ⟨h1, hs, h2⟩
      · have := hs.len
        rw [h2]
        simp only [usedOf, List.map_cons, List.map_nil, List.sum_cons, List.sum_nil, moreOf, Nat.add_zero]
        unfold needs; omega
      · rw [h2]; exact Nat.zero_le _
    unfold needs; omega
  have r3 := Rm.save (k := 2000) (by omega) r2 o2 hb.g hb.m
  obtain ⟨R, D3, hS⟩ : ∃ R D3, saveP D2 b = (R, D3) := ⟨_, _, rfl⟩
  have hso := save_out o2 b2 (by rw [f2]; exact ho) hb hroom
  rw [hS] at hso r3
  rw [f2] at hso
  refine ⟨f1, D1, R, D3, e1, by rw [hD2]; exact hS, o1, hfirst, by rw [hD2]; exact r2.mono (by omega) (by omega), r3.mono (by omega) (by omega), ?_, fun E eo eb eF => ?_⟩
  · rcases hso with ⟨_, h | ⟨_, _, _, _, _, _, h, _⟩⟩ | ⟨_, _, _, h, _⟩
    · exact h.2.2.1
    · exact h
    · exact h
  · rcases hso with ⟨_, h | ⟨a', ha', h2, h3, h4, h5, h6, h7⟩⟩ | ⟨h1, h2, h3, h4, h5, h6⟩
    · obtain ⟨g1, g2, g3, g4⟩ := h
      dsimp only at g1 g4
      rw [← eF] at g4
      exact ⟨base E eo eb R (by rw [g1]; decide) g4, files_load eo eb (baseF _ g4)⟩
    · dsimp only at h4 h7
      rw [← eF] at h7
      have hf1 : f1 = 0 := by
        rcases hc with ⟨h1, _, _⟩ | ⟨_, _, h⟩
        · exact h1
        · rw [h2] at h; cases h
      refine ⟨.inr (.inr (.inl ⟨?_, hf1, h4⟩)), files_load eo eb ?_⟩
      · rw [load_two ha' hb eo eb h7 (by omega), if_pos h3]
      · rw [h7]
        intro y hy
        rcases List.mem_cons.1 hy with rfl | hy
        · exact .inr ha'.len
        · rw [List.mem_singleton.1 hy]; exact .inr hb.len
    · dsimp only at h1 h3
      rcases h3 with ⟨h3, _⟩ | ⟨a', ha', g1, g2, g3⟩
      · rw [← eF] at h3
        refine ⟨.inr (.inr (.inr (.inl ⟨load_one hb eo eb (.inl h3), h1⟩))), files_load eo eb ?_⟩
        rw [h3]; intro y hy; rw [List.mem_singleton.1 hy]; exact .inr hb.len
      · rw [← eF] at g3
        rcases hc with ⟨c1, hs, c2⟩ | ⟨_, _, h⟩
        · rw [c2] at g1
          injection g1 with g1 _
          have haa := file_inj hs ha' g1
          subst haa
          refine ⟨.inr (.inr (.inr (.inr ⟨?_, c1, h1, g2⟩))), files_load eo eb ?_⟩
          · rw [load_two hs hb eo eb g3 (by omega), if_neg (by omega)]
          · rw [g3]
            intro y hy
            rcases List.mem_cons.1 hy with rfl | hy
            · exact .inr hs.len
            · rw [List.mem_singleton.1 hy]; exact .inr hb.len
        · rw [h] at g1; cases g1
end Go.Proofs.YtbkhademplgicaaGreatDoor

namespace Go.Proofs.YtbkhademplgicaaGreatDoor
open Go.RowKit
set_option linter.unusedVariables false
set_option linter.unusedSimpArgs false
theorem DV.snap {w0 w : World} {p : Nat} {ro : Nat → Role} {D : DS} {x : Sn} {VA LA DA : Option Addr} {vn vc ln lc dn dc : Nat} (h : DV All w0 w p ro D) (hs : Snp x VA LA DA vn vc ln lc dn dc w0) : SnpS (fun b => ro b = .none) x VA LA DA vn vc ln lc dn dc w :=
  ⟨h.foot hs.cf.v, h.foot hs.cf.l, hs.cf.vn, hs.cf.ln, h.foot hs.d, hs.dn, hs.int⟩
theorem Gl.lt {w : World} (h : Gl w) : 0 < w.heap.size ∧ 2 < w.heap.size := by
  obtain ⟨_, _, _, e1, _⟩ := h.e
  obtain ⟨_, _, e2⟩ := h.p
  exact ⟨(Array.getElem?_eq_some_iff.1 e1).1, (Array.getElem?_eq_some_iff.1 e2).1⟩
theorem crash_same {D : DS} (hB : D.B = []) (k : Int) : (D.crash k).start.F = D.F ∧ (D.crash k).start.B = [] ∧ (D.crash k).start.off = false := by
  refine ⟨?_, rfl, rfl⟩
  show settleF D.F D.B _ = _
  rw [hB]; rfl
set_option maxRecDepth 100000 in
set_option maxHeartbeats 2000000 in
theorem snapWhole_any (a b : Sn) (VA LA DA VB LB DB : Option Addr) (vn vc ln lc dn dc vm vd lm ld dm dd N : Nat) (keep : Int) (hN : N < 18446744073709551616) (hk0 : -9223372036854775808 ≤ keep) (hk1 : keep ≤ 9223372036854775807) (hl : vn ≤ 1000000000000000 ∧ ln ≤ 1000000000000000) (hl' : vm ≤ 1000000000000000 ∧ lm ≤ 1000000000000000) (w : World) (hg : Gl w)
    (ha : Snp a VA LA DA vn vc ln lc dn dc w) (hb : Snp b VB LB DB vm vd lm ld dm dd w) :
    Calls Tryz.prog 6 #[.agg #[.int .i64 a.index, .int .i64 a.term, .slice VA vn vc, .slice LA ln lc, .slice DA dn dc], .agg #[.int .i64 b.index, .int .i64 b.term, .slice VB vm vd, .slice LB lm ld, .slice DB dm dd], .agg #[.int .u64 N, .int .i64 keep]] w (Boo true w) := by
  obtain ⟨W, hW⟩ : ∃ W, W = ((w.alloc (.cells #[.int .i64 a.index, .int .i64 a.term, .slice VA vn vc, .slice LA ln lc, .slice DA dn dc] 27)).alloc (.cells #[.int .i64 b.index, .int .i64 b.term, .slice VB vm vd, .slice LB lm ld, .slice DB dm dd] 27)).alloc (.cells #[.int .u64 N, .int .i64 keep] 50) := ⟨_, rfl⟩
  have kb : Kp All w W := by rw [hW]; exact ((Kp.al _ _).alloc _).alloc _
  have b1 : W.heap[w.heap.size]? = some (.cells #[.int .i64 a.index, .int .i64 a.term, .slice VA vn vc, .slice LA ln lc, .slice DA dn dc] 27 (0, 0)) := by rw [hW]; exact blk_alloc (blk_alloc (blk_new w _) _) _
  have b2 : W.heap[w.heap.size + 1]? = some (.cells #[.int .i64 b.index, .int .i64 b.term, .slice VB vm vd, .slice LB lm ld, .slice DB dm dd] 27 (0, 0)) := by
    rw [hW]
    have := blk_new (w.alloc (.cells #[.int .i64 a.index, .int .i64 a.term, .slice VA vn vc, .slice LA ln lc, .slice DA dn dc] 27)) (.cells #[.int .i64 b.index, .int .i64 b.term, .slice VB vm vd, .slice LB lm ld, .slice DB dm dd] 27)
    rw [World.size_alloc] at this
    exact blk_alloc this _
  have b3 : W.heap[w.heap.size + 1 + 1]? = some (.cells #[.int .u64 N, .int .i64 keep] 50 (0, 0)) := by
    rw [hW]
    have := blk_new ((w.alloc (.cells #[.int .i64 a.index, .int .i64 a.term, .slice VA vn vc, .slice LA ln lc, .slice DA dn dc] 27)).alloc (.cells #[.int .i64 b.index, .int .i64 b.term, .slice VB vm vd, .slice LB lm ld, .slice DB dm dd] 27)) (.cells #[.int .u64 N, .int .i64 keep] 50)
    rwa [World.size_alloc, World.size_alloc] at this
  have HW := hid hW; have KB := hid kb; have B1 := hid b1; have B2 := hid b2; have B3 := hid b3
  have HA := hid (ha.step kb); have HB := hid (hb.step kb); have HG := hid (hg.all kb)
  have c1 := blk_cell b1; have c2 := blk_cell b2; have c3 := blk_cell b3
  have HIA := hid ha.int; have HIB := hid hb.int
  have HGA := hid (great_any a.index a.term VA LA DA vn vc ln lc dn dc hl W)
  have HGB := hid (fun w' => great_any b.index b.term VB LB DB vm vd lm ld dm dd hl' w')
  clear hW kb b1 b2 b3 ha hb hg
  cases hga : greatB vn ln dn with
  | true =>
    rw [hga] at HGA
    go_enter Tryz.func6, Tryz.ntmps6
    go_wp2_with fail
    rw [← HW.out]
    refine HGA.out.mono ?_
    rintro e w2 ⟨rfl, hk2⟩
    have HK2 := hid hk2
    clear hk2
    go_wp2_with fail
    refine (lives12_any w2 (HG.out.all HK2.out)).mono ?_
    rintro e w3 ⟨rfl, hk3⟩
    have HK3 := hid (KB.out.trans (HK2.out.trans hk3))
    clear hk3
    go_wp2_with fail
    go_ret
    exact ⟨rfl, HK3.out⟩
  | false =>
  rw [hga] at HGA
  obtain ⟨hdn, hvl⟩ := greatB_no hga
  clear hga
  cases hgb : greatB vm lm dm with
  | true =>
    rw [hgb] at HGB
    go_enter Tryz.func6, Tryz.ntmps6
    go_wp2_with fail
    rw [← HW.out]
    refine HGA.out.mono ?_
    rintro e w2 ⟨rfl, hk2⟩
    have HK2 := hid hk2
    have d2 := blk_cell (hk2.heap B2.out trivial)
    clear hk2
    go_wp2_with fail
    refine (HGB.out w2).mono ?_
    rintro e w2b ⟨rfl, hk2b⟩
    have HK2b := hid (HK2.out.trans hk2b)
    clear hk2b
    go_wp2_with fail
    refine (lives12_any w2b (HG.out.all HK2b.out)).mono ?_
    rintro e w3 ⟨rfl, hk3⟩
    have HK3 := hid (KB.out.trans (HK2b.out.trans hk3))
    clear hk3
    go_wp2_with fail
    go_ret
    exact ⟨rfl, HK3.out⟩
  | false =>
  rw [hgb] at HGB
  obtain ⟨hdm, hvm⟩ := greatB_no hgb
  clear hgb
  obtain ⟨n, hn⟩ : ∃ n : Nat, 1 + N % 16 = n := ⟨_, rfl⟩
  have hn16 : (n : Int) ≤ 16 := by omega
  obtain ⟨f1, D1, r2, D3, e1, e2, o1, hfst, rm2, rm3, bb3, hfin⟩ := whole_cases a b (n : Int) keep hn16 HIA.out HIB.out
  have E1 := hid e1; have E2 := hid e2; have O1 := hid o1; have RM2 := hid rm2; have RM3 := hid rm3; have BB3 := hid bb3; have HFIN := hid hfin; have HFST := hid hfst
  have r0 : Rm 2000 0 D0w := ⟨by simp [D0w], by simp [D0w], by simp [D0w], by simp [D0w], fun x hx => (by cases hx), Nat.le_refl _⟩
  have R0 := hid r0
  clear e1 e2 o1 rm2 rm3 bb3 hfin hfst r0
  go_enter Tryz.func6, Tryz.ntmps6
  go_wp2_with fail
  rw [← HW.out]
  refine HGA.out.mono ?_
  rintro e w1 ⟨rfl, hk1'⟩
  have HK1 := hid hk1'
  have d2 := blk_cell (hk1'.heap B2.out trivial)
  clear hk1'
  go_wp2_with fail
  refine (HGB.out w1).mono ?_
  rintro e w2 ⟨rfl, hk2⟩
  have HK2 := hid (HK1.out.trans hk2)
  clear hk2
  have HB1 := hid (HK2.out.heap B1.out trivial); have HB2 := hid (HK2.out.heap B2.out trivial); have HB3 := hid (HK2.out.heap B3.out trivial)
  have HA2 := hid (HA.out.step HK2.out); have HBB2 := hid (HB.out.step HK2.out); have HG2 := hid (HG.out.all HK2.out)
  go_wp2_with fail
  refine (dnew_any 1048576 (by omega) (by omega) w2).mono ?_
  rintro e w3 ⟨⟨p, ro, rfl, hd, hro⟩, hk3⟩
  have HV3 := hid (show DV All w2 w3 p ro D0w from ⟨hd, hk3, fun b hb _ => hro b hb⟩)
  have d1 := blk_cell (hk3.heap HB1.out trivial)
  clear hd hro hk3
  go_wp2_with fail
  refine (save_any p ro D0w (by omega) R0.out a VA LA DA vn vc ln lc dn dc (by omega) w3 (HG2.out.all HV3.out.kp) (HV3.out.rn _ HG2.out.lt.1 trivial) (HV3.out.rn _ HG2.out.lt.2 trivial) HV3.out.dk (HV3.out.snap HA2.out)).mono ?_
  rw [E1.out]
  rintro e w4 ⟨rfl, hnx⟩
  obtain ⟨ro4, hv4⟩ := HV3.out.next hnx
  have HV4 := hid hv4
  have d1 := blk_cell (hv4.kp.heap HB1.out trivial)
  have HRG := hid (rgoodsnap_any a VA LA DA vn vc ln lc dn dc (by omega) (by omega) w4 (HA2.out.step hv4.kp))
  clear hnx hv4 HV3
  go_wp2_with fail
  have en : IntKind.i64.wrap (1 + (N : Int) % 16) = (n : Int) := by rw [IntWalk.i64_in _ (by omega)]; omega
  cases hgd : goodSnap a with
  | false =>
    rw [hgd] at HRG
    have HF1 := hid (show f1 ≠ 0 by intro h; have := HFST.out.1 h; rw [hgd] at this; simp at this)
    have df0 : (f1 == 0) = false := by simpa using HF1.out
    clear hgd
    refine HRG.out.mono ?_
    rintro e w5 ⟨rfl, hk5⟩
    have HV5 := hid (HV4.out.all hk5)
    have d3 := blk_cell (HV5.out.kp.heap HB3.out trivial)
    clear hk5
    go_wp2_with fail
    refine (arm_any p ro4 D1 (n : Int) keep hk1 w5 HV5.out.dk).mono ?_
    rintro e w6 ⟨rfl, hnx⟩
    obtain ⟨ro6, hv6⟩ := HV5.out.next hnx
    have HV6 := hid hv6
    have d2 := blk_cell (hv6.kp.heap HB2.out trivial)
    clear hnx hv6
    go_wp2_with fail
    refine (save_any p ro6 (armD D1 n keep) (M := 4) (by omega) RM2.out b VB LB DB vm vd lm ld dm dd (by omega) w6 (HG2.out.all HV6.out.kp) (HV6.out.rn _ HG2.out.lt.1 trivial) (HV6.out.rn _ HG2.out.lt.2 trivial) HV6.out.dk (HV6.out.snap HBB2.out)).mono ?_
    rw [E2.out]
    rintro e w7 ⟨rfl, hnx⟩
    obtain ⟨ro7, hv7⟩ := HV6.out.next hnx
    have HV7 := hid hv7
    have d3 := blk_cell (hv7.kp.heap HB3.out trivial)
    clear hnx hv7
    obtain ⟨pm, pfp, pbv, pBV, hpc⟩ := HV7.out.dk
    have HON := hid (on_any p pm D3 _ pbv w7 hpc.cell)
    clear hpc
    go_wp2_with fail
    refine HON.out.mono ?_
    rintro e w7' ⟨rfl, rfl⟩
    cases hoff : D3.off with
    | false =>
      go_wp2_with fail
      refine (crash_any p ro7 D3 keep hk1 w7 HV7.out.dk).mono ?_
      rintro e w8 ⟨rfl, hnx⟩
      obtain ⟨ro8, hv8⟩ := HV7.out.next hnx
      have HV8 := hid hv8
      clear hnx hv8
      go_wp2_with fail
      refine (start_any p ro8 (D3.crash keep) w8 HV8.out.dk).mono ?_
      rintro e w9 ⟨rfl, hnx⟩
      obtain ⟨ro9, hv9⟩ := HV8.out.next hnx
      obtain ⟨E5, hE5⟩ : ∃ E5, (D3.crash keep).start = E5 := ⟨_, rfl⟩
      obtain ⟨ef5, eb5, eo5⟩ := crash_same BB3.out keep
      rw [hE5] at ef5 eb5 eo5 hv9
      have HV9 := hid hv9
      clear hnx hv9 hE5 hoff
      obtain ⟨hcs, hsz⟩ := HFIN.out E5 eo5 eb5 ef5
      have HSZ := hid hsz
      clear hsz
      go_wp2_with fail
      refine (load_any p ro9 E5 (key_size (F := D3.F) (by rw [ef5]) RM3.out.nm) (by rw [ef5]; have := RM3.out.fl; omega) HSZ.out w9 (HG2.out.all HV9.out.kp) HV9.out.dk).mono ?_
      rintro e w10 ⟨hk10, hlo⟩
      have HK10 := hid hk10
      rw [eo5] at hlo
      clear hk10 eo5 eb5 ef5
      rcases hcs with ⟨hL, hf1, hr2⟩ | ⟨hL, hf1, hr2⟩ | ⟨hL, hf1, hr2⟩ | ⟨hL, hr2⟩ | ⟨hL, hf1, hr2, hlt⟩
      · have hl2 := hlo
        rw [hL] at hl2
        dsimp only at hl2
        subst hl2
        clear hL
        have dr : (r2 == 0) = false := by simpa using hr2
        have df : (f1 != 0) = true := by simpa using hf1
        have df2 : (f1 == 0) = false := by simpa using hf1
        have KZ := hid (HV9.out.kp.trans (HK10.out.trans (Kp.al w10 (.cells #[.int .i64 0, .int .i64 0, .slice none 0 0, .slice none 0 0, .slice none 0 0] 27))))
        go_wp2_with fail
        refine (lives12_any _ (HG2.out.all KZ.out)).mono ?_
        rintro e w20 ⟨rfl, hk20⟩
        have HK20 := hid (KB.out.trans (HK2.out.trans (KZ.out.trans hk20)))
        clear hk20
        go_wp2_with fail
        go_ret
        exact ⟨rfl, HK20.out⟩
      · exact absurd hf1 HF1.out
      · exact absurd hf1 HF1.out
      · have hf1 := HF1.out
        have hl2 := hlo
        rw [hL] at hl2
        dsimp only at hl2
        obtain ⟨VC, LC, DC, vq, lq, dq, rfl, hs10⟩ := hl2
        clear hL
        obtain ⟨nv, hnv⟩ : ∃ nv, b.V.length = nv := ⟨_, rfl⟩
        obtain ⟨nl, hnl⟩ : ∃ nl, b.L.length = nl := ⟨_, rfl⟩
        obtain ⟨nd, hnd⟩ : ∃ nd, b.data.length = nd := ⟨_, rfl⟩
        have hnv2 : nv ≤ 100 := by have := HBB2.out.cf.vn; omega
        have hnl2 : nl ≤ 100 := by have := HBB2.out.cf.ln; omega
        rw [hnv, hnl, hnd] at hs10 ⊢
        have k11 := Kp.al w10 (.cells #[.int .i64 b.index, .int .i64 b.term, .slice VC nv vq, .slice LC nl lq, .slice DC nd dq] 27)
        have HJ := hid (blk_new w10 (.cells #[.int .i64 b.index, .int .i64 b.term, .slice VC nv vq, .slice LC nl lq, .slice DC nd dq] 27))
        have KZ0 := hid (HV9.out.kp.trans (HK10.out.trans k11))
        have z1 := blk_cell HJ.out; have z2 := blk_cell (KZ0.out.heap HB1.out trivial); have z3 := blk_cell (KZ0.out.heap HB2.out trivial)
        clear KZ0
        obtain ⟨w11, hw11⟩ : ∃ w11, w11 = w10.alloc (.cells #[.int .i64 b.index, .int .i64 b.term, .slice VC nv vq, .slice LC nl lq, .slice DC nd dq] 27) := ⟨_, rfl⟩
        rw [← hw11] at k11 HJ
        have HW11 := hid hw11
        have KZ := hid (HV9.out.kp.trans (HK10.out.trans k11))
        have HS11 := hid (hs10.snp.step k11)
        clear hs10 k11 hw11 hnv hnl hnd
        have df : (f1 != 0) = true := by simpa using hf1
        have df2 : (f1 == 0) = false := by simpa using hf1
        have dr : (r2 == 0) = true := by simp [hr2]
        go_wp2_with fail
        rw [← HW11.out]
        refine (rsamesnap_any b b VC LC DC VB LB DB nv vq nl lq nd dq vm vd lm ld dm dd (by omega) _ HS11.out (HBB2.out.step KZ.out)).mono ?_
        obtain ⟨ib, hib⟩ : ∃ ib, sameB b b = ib := ⟨_, rfl⟩
        rw [hib]
        obtain rfl : ib = true := by rw [← hib]; exact sameB_refl b
        clear hib
        rintro e w13 ⟨rfl, hk13⟩
        have KV := hid (KZ.out.trans hk13)
        clear hk13
        go_wp2_with fail
        refine (lives12_any _ (HG2.out.all KV.out)).mono ?_
        rintro e w20 ⟨rfl, hk20⟩
        have HK20 := hid (KB.out.trans (HK2.out.trans (KV.out.trans hk20)))
        clear hk20
        go_wp2_with fail
        go_ret
        exact ⟨rfl, HK20.out⟩
      · exact absurd hf1 HF1.out
    | true =>
      go_wp2_with fail
      refine (start_any p ro7 D3 w7 HV7.out.dk).mono ?_
      rintro e w9 ⟨rfl, hnx⟩
      obtain ⟨ro9, hv9⟩ := HV7.out.next hnx
      obtain ⟨E5, hE5⟩ : ∃ E5, D3.start = E5 := ⟨_, rfl⟩
      have ef5 : E5.F = D3.F := by rw [← hE5]; rfl
      have eb5 : E5.B = [] := by rw [← hE5]; exact BB3.out
      have eo5 : E5.off = false := by rw [← hE5]; rfl
      rw [hE5] at hv9
      have HV9 := hid hv9
      clear hnx hv9 hE5 hoff
      obtain ⟨hcs, hsz⟩ := HFIN.out E5 eo5 eb5 ef5
      have HSZ := hid hsz
      clear hsz
      go_wp2_with fail
      refine (load_any p ro9 E5 (key_size (F := D3.F) (by rw [ef5]) RM3.out.nm) (by rw [ef5]; have := RM3.out.fl; omega) HSZ.out w9 (HG2.out.all HV9.out.kp) HV9.out.dk).mono ?_
      rintro e w10 ⟨hk10, hlo⟩
      have HK10 := hid hk10
      rw [eo5] at hlo
      clear hk10 eo5 eb5 ef5
      rcases hcs with ⟨hL, hf1, hr2⟩ | ⟨hL, hf1, hr2⟩ | ⟨hL, hf1, hr2⟩ | ⟨hL, hr2⟩ | ⟨hL, hf1, hr2, hlt⟩
      · have hl2 := hlo
        rw [hL] at hl2
        dsimp only at hl2
        subst hl2
        clear hL
        have dr : (r2 == 0) = false := by simpa using hr2
        have df : (f1 != 0) = true := by simpa using hf1
        have df2 : (f1 == 0) = false := by simpa using hf1
        have KZ := hid (HV9.out.kp.trans (HK10.out.trans (Kp.al w10 (.cells #[.int .i64 0, .int .i64 0, .slice none 0 0, .slice none 0 0, .slice none 0 0] 27))))
        go_wp2_with fail
        refine (lives12_any _ (HG2.out.all KZ.out)).mono ?_
        rintro e w20 ⟨rfl, hk20⟩
        have HK20 := hid (KB.out.trans (HK2.out.trans (KZ.out.trans hk20)))
        clear hk20
        go_wp2_with fail
        go_ret
        exact ⟨rfl, HK20.out⟩
      · exact absurd hf1 HF1.out
      · exact absurd hf1 HF1.out
      · have hf1 := HF1.out
        have hl2 := hlo
        rw [hL] at hl2
        dsimp only at hl2
        obtain ⟨VC, LC, DC, vq, lq, dq, rfl, hs10⟩ := hl2
        clear hL
        obtain ⟨nv, hnv⟩ : ∃ nv, b.V.length = nv := ⟨_, rfl⟩
        obtain ⟨nl, hnl⟩ : ∃ nl, b.L.length = nl := ⟨_, rfl⟩
        obtain ⟨nd, hnd⟩ : ∃ nd, b.data.length = nd := ⟨_, rfl⟩
        have hnv2 : nv ≤ 100 := by have := HBB2.out.cf.vn; omega
        have hnl2 : nl ≤ 100 := by have := HBB2.out.cf.ln; omega
        rw [hnv, hnl, hnd] at hs10 ⊢
        have k11 := Kp.al w10 (.cells #[.int .i64 b.index, .int .i64 b.term, .slice VC nv vq, .slice LC nl lq, .slice DC nd dq] 27)
        have HJ := hid (blk_new w10 (.cells #[.int .i64 b.index, .int .i64 b.term, .slice VC nv vq, .slice LC nl lq, .slice DC nd dq] 27))
        have KZ0 := hid (HV9.out.kp.trans (HK10.out.trans k11))
        have z1 := blk_cell HJ.out; have z2 := blk_cell (KZ0.out.heap HB1.out trivial); have z3 := blk_cell (KZ0.out.heap HB2.out trivial)
        clear KZ0
        obtain ⟨w11, hw11⟩ : ∃ w11, w11 = w10.alloc (.cells #[.int .i64 b.index, .int .i64 b.term, .slice VC nv vq, .slice LC nl lq, .slice DC nd dq] 27) := ⟨_, rfl⟩
        rw [← hw11] at k11 HJ
        have HW11 := hid hw11
        have KZ := hid (HV9.out.kp.trans (HK10.out.trans k11))
        have HS11 := hid (hs10.snp.step k11)
        clear hs10 k11 hw11 hnv hnl hnd
        have df : (f1 != 0) = true := by simpa using hf1
        have df2 : (f1 == 0) = false := by simpa using hf1
        have dr : (r2 == 0) = true := by simp [hr2]
        go_wp2_with fail
        rw [← HW11.out]
        refine (rsamesnap_any b b VC LC DC VB LB DB nv vq nl lq nd dq vm vd lm ld dm dd (by omega) _ HS11.out (HBB2.out.step KZ.out)).mono ?_
        obtain ⟨ib, hib⟩ : ∃ ib, sameB b b = ib := ⟨_, rfl⟩
        rw [hib]
        obtain rfl : ib = true := by rw [← hib]; exact sameB_refl b
        clear hib
        rintro e w13 ⟨rfl, hk13⟩
        have KV := hid (KZ.out.trans hk13)
        clear hk13
        go_wp2_with fail
        refine (lives12_any _ (HG2.out.all KV.out)).mono ?_
        rintro e w20 ⟨rfl, hk20⟩
        have HK20 := hid (KB.out.trans (HK2.out.trans (KV.out.trans hk20)))
        clear hk20
        go_wp2_with fail
        go_ret
        exact ⟨rfl, HK20.out⟩
      · exact absurd hf1 HF1.out
  | true =>
    rw [hgd] at HRG
    by_cases hix : a.index ≤ 999999999
    · have dix : decide (a.index ≤ 999999999) = true := decide_eq_true hix
      have HF1 := hid (show f1 = 0 from HFST.out.2 (by rw [hgd, dix]; rfl))
      have df0 : (f1 == 0) = true := by simp [HF1.out]
      clear hgd hix
      refine HRG.out.mono ?_
      rintro e w5 ⟨rfl, hk5⟩
      have HV5 := hid (HV4.out.all hk5)
      have d1 := blk_cell (HV5.out.kp.heap HB1.out trivial)
      have d3 := blk_cell (HV5.out.kp.heap HB3.out trivial)
      clear hk5
      go_wp2_with fail
      refine (arm_any p ro4 D1 (n : Int) keep hk1 w5 HV5.out.dk).mono ?_
      rintro e w6 ⟨rfl, hnx⟩
      obtain ⟨ro6, hv6⟩ := HV5.out.next hnx
      have HV6 := hid hv6
      have d2 := blk_cell (hv6.kp.heap HB2.out trivial)
      clear hnx hv6
      go_wp2_with fail
      refine (save_any p ro6 (armD D1 n keep) (M := 4) (by omega) RM2.out b VB LB DB vm vd lm ld dm dd (by omega) w6 (HG2.out.all HV6.out.kp) (HV6.out.rn _ HG2.out.lt.1 trivial) (HV6.out.rn _ HG2.out.lt.2 trivial) HV6.out.dk (HV6.out.snap HBB2.out)).mono ?_
      rw [E2.out]
      rintro e w7 ⟨rfl, hnx⟩
      obtain ⟨ro7, hv7⟩ := HV6.out.next hnx
      have HV7 := hid hv7
      have d3 := blk_cell (hv7.kp.heap HB3.out trivial)
      clear hnx hv7
      obtain ⟨pm, pfp, pbv, pBV, hpc⟩ := HV7.out.dk
      have HON := hid (on_any p pm D3 _ pbv w7 hpc.cell)
      clear hpc
      go_wp2_with fail
      refine HON.out.mono ?_
      rintro e w7' ⟨rfl, rfl⟩
      cases hoff : D3.off with
      | false =>
        go_wp2_with fail
        refine (crash_any p ro7 D3 keep hk1 w7 HV7.out.dk).mono ?_
        rintro e w8 ⟨rfl, hnx⟩
        obtain ⟨ro8, hv8⟩ := HV7.out.next hnx
        have HV8 := hid hv8
        clear hnx hv8
        go_wp2_with fail
        refine (start_any p ro8 (D3.crash keep) w8 HV8.out.dk).mono ?_
        rintro e w9 ⟨rfl, hnx⟩
        obtain ⟨ro9, hv9⟩ := HV8.out.next hnx
        obtain ⟨E5, hE5⟩ : ∃ E5, (D3.crash keep).start = E5 := ⟨_, rfl⟩
        obtain ⟨ef5, eb5, eo5⟩ := crash_same BB3.out keep
        rw [hE5] at ef5 eb5 eo5 hv9
        have HV9 := hid hv9
        clear hnx hv9 hE5 hoff
        obtain ⟨hcs, hsz⟩ := HFIN.out E5 eo5 eb5 ef5
        have HSZ := hid hsz
        clear hsz
        go_wp2_with fail
        refine (load_any p ro9 E5 (key_size (F := D3.F) (by rw [ef5]) RM3.out.nm) (by rw [ef5]; have := RM3.out.fl; omega) HSZ.out w9 (HG2.out.all HV9.out.kp) HV9.out.dk).mono ?_
        rintro e w10 ⟨hk10, hlo⟩
        have HK10 := hid hk10
        rw [eo5] at hlo
        clear hk10 eo5 eb5 ef5
        rcases hcs with ⟨hL, hf1, hr2⟩ | ⟨hL, hf1, hr2⟩ | ⟨hL, hf1, hr2⟩ | ⟨hL, hr2⟩ | ⟨hL, hf1, hr2, hlt⟩
        · exact absurd HF1.out hf1
        · have hl2 := hlo
          rw [hL] at hl2
          dsimp only at hl2
          obtain ⟨VC, LC, DC, vq, lq, dq, rfl, hs10⟩ := hl2
          clear hL
          obtain ⟨nv, hnv⟩ : ∃ nv, a.V.length = nv := ⟨_, rfl⟩
          obtain ⟨nl, hnl⟩ : ∃ nl, a.L.length = nl := ⟨_, rfl⟩
          obtain ⟨nd, hnd⟩ : ∃ nd, a.data.length = nd := ⟨_, rfl⟩
          have hnv2 : nv ≤ 100 := by have := HA2.out.cf.vn; omega
          have hnl2 : nl ≤ 100 := by have := HA2.out.cf.ln; omega
          rw [hnv, hnl, hnd] at hs10 ⊢
          have k11 := Kp.al w10 (.cells #[.int .i64 a.index, .int .i64 a.term, .slice VC nv vq, .slice LC nl lq, .slice DC nd dq] 27)
          have HJ := hid (blk_new w10 (.cells #[.int .i64 a.index, .int .i64 a.term, .slice VC nv vq, .slice LC nl lq, .slice DC nd dq] 27))
          have KZ0 := hid (HV9.out.kp.trans (HK10.out.trans k11))
          have z1 := blk_cell HJ.out; have z2 := blk_cell (KZ0.out.heap HB1.out trivial); have z3 := blk_cell (KZ0.out.heap HB2.out trivial)
          clear KZ0
          obtain ⟨w11, hw11⟩ : ∃ w11, w11 = w10.alloc (.cells #[.int .i64 a.index, .int .i64 a.term, .slice VC nv vq, .slice LC nl lq, .slice DC nd dq] 27) := ⟨_, rfl⟩
          rw [← hw11] at k11 HJ
          have HW11 := hid hw11
          have KZ := hid (HV9.out.kp.trans (HK10.out.trans k11))
          have HS11 := hid (hs10.snp.step k11)
          clear hs10 k11 hw11 hnv hnl hnd
          have df : (f1 != 0) = false := by simp [hf1]
          have df2 : (f1 == 0) = true := by simp [hf1]
          have dr : (r2 == 0) = false := by simpa using hr2
          go_wp2_with fail
          rw [← HW11.out]
          refine (rsamesnap_any a a VC LC DC VA LA DA nv vq nl lq nd dq vn vc ln lc dn dc (by omega) _ HS11.out (HA2.out.step KZ.out)).mono ?_
          obtain ⟨wa, hwa⟩ : ∃ wa, sameB a a = wa := ⟨_, rfl⟩
          rw [hwa]
          obtain rfl : wa = true := by rw [← hwa]; exact sameB_refl a
          clear hwa
          rintro e w12 ⟨rfl, hk12⟩
          have KY := hid hk12
          have KX := hid (KZ.out.trans hk12)
          have y1 := blk_cell (hk12.heap HJ.out trivial); have y2 := blk_cell (KX.out.heap HB1.out trivial); have y3 := blk_cell (KX.out.heap HB2.out trivial)
          clear hk12
          go_wp2_with fail
          refine (rsamesnap_any a b VC LC DC VB LB DB nv vq nl lq nd dq vm vd lm ld dm dd (by omega) _ (HS11.out.step KY.out) (HBB2.out.step KX.out)).mono ?_
          obtain ⟨ib, hib⟩ : ∃ ib, sameB a b = ib := ⟨_, rfl⟩
          rw [hib]
          clear hib
          rintro e w13 ⟨rfl, hk13⟩
          have KV := hid (KX.out.trans hk13)
          have x2 := blk_cell (KV.out.heap HB1.out trivial); have x3 := blk_cell (KV.out.heap HB2.out trivial)
          clear hk13
          cases ib
          all_goals
            go_wp2_with fail
            refine (lives12_any _ (HG2.out.all KV.out)).mono ?_
            rintro e w20 ⟨rfl, hk20⟩
            have HK20 := hid (KB.out.trans (HK2.out.trans (KV.out.trans hk20)))
            clear hk20
            go_wp2_with fail
            go_ret
            exact ⟨rfl, HK20.out⟩
        · have hl2 := hlo
          rw [hL] at hl2
          dsimp only at hl2
          obtain ⟨VC, LC, DC, vq, lq, dq, rfl, hs10⟩ := hl2
          clear hL
          obtain ⟨nv, hnv⟩ : ∃ nv, b.V.length = nv := ⟨_, rfl⟩
          obtain ⟨nl, hnl⟩ : ∃ nl, b.L.length = nl := ⟨_, rfl⟩
          obtain ⟨nd, hnd⟩ : ∃ nd, b.data.length = nd := ⟨_, rfl⟩
          have hnv2 : nv ≤ 100 := by have := HBB2.out.cf.vn; omega
          have hnl2 : nl ≤ 100 := by have := HBB2.out.cf.ln; omega
          rw [hnv, hnl, hnd] at hs10 ⊢
          have k11 := Kp.al w10 (.cells #[.int .i64 b.index, .int .i64 b.term, .slice VC nv vq, .slice LC nl lq, .slice DC nd dq] 27)
          have HJ := hid (blk_new w10 (.cells #[.int .i64 b.index, .int .i64 b.term, .slice VC nv vq, .slice LC nl lq, .slice DC nd dq] 27))
          have KZ0 := hid (HV9.out.kp.trans (HK10.out.trans k11))
          have z1 := blk_cell HJ.out; have z2 := blk_cell (KZ0.out.heap HB1.out trivial); have z3 := blk_cell (KZ0.out.heap HB2.out trivial)
          clear KZ0
          obtain ⟨w11, hw11⟩ : ∃ w11, w11 = w10.alloc (.cells #[.int .i64 b.index, .int .i64 b.term, .slice VC nv vq, .slice LC nl lq, .slice DC nd dq] 27) := ⟨_, rfl⟩
          rw [← hw11] at k11 HJ
          have HW11 := hid hw11
          have KZ := hid (HV9.out.kp.trans (HK10.out.trans k11))
          have HS11 := hid (hs10.snp.step k11)
          clear hs10 k11 hw11 hnv hnl hnd
          have df : (f1 != 0) = false := by simp [hf1]
          have df2 : (f1 == 0) = true := by simp [hf1]
          have dr : (r2 == 0) = false := by simp [hr2]
          have dr9 : (r2 == 9) = true := by simp [hr2]
          go_wp2_with fail
          rw [← HW11.out]
          refine (rsamesnap_any b a VC LC DC VA LA DA nv vq nl lq nd dq vn vc ln lc dn dc (by omega) _ HS11.out (HA2.out.step KZ.out)).mono ?_
          obtain ⟨wa, hwa⟩ : ∃ wa, sameB b a = wa := ⟨_, rfl⟩
          rw [hwa]
          clear hwa
          rintro e w12 ⟨rfl, hk12⟩
          have KY := hid hk12
          have KX := hid (KZ.out.trans hk12)
          have y1 := blk_cell (hk12.heap HJ.out trivial); have y2 := blk_cell (KX.out.heap HB1.out trivial); have y3 := blk_cell (KX.out.heap HB2.out trivial)
          clear hk12
          cases wa
          all_goals
            go_wp2_with fail
            refine (rsamesnap_any b b VC LC DC VB LB DB nv vq nl lq nd dq vm vd lm ld dm dd (by omega) _ (HS11.out.step KY.out) (HBB2.out.step KX.out)).mono ?_
            obtain ⟨ib, hib⟩ : ∃ ib, sameB b b = ib := ⟨_, rfl⟩
            rw [hib]
            obtain rfl : ib = true := by rw [← hib]; exact sameB_refl b
            clear hib
            rintro e w13 ⟨rfl, hk13⟩
            have KV := hid (KX.out.trans hk13)
            clear hk13
            go_wp2_with fail
            refine (lives12_any _ (HG2.out.all KV.out)).mono ?_
            rintro e w20 ⟨rfl, hk20⟩
            have HK20 := hid (KB.out.trans (HK2.out.trans (KV.out.trans hk20)))
            clear hk20
            go_wp2_with fail
            go_ret
            exact ⟨rfl, HK20.out⟩
        · have hf1 := HF1.out
          have hl2 := hlo
          rw [hL] at hl2
          dsimp only at hl2
          obtain ⟨VC, LC, DC, vq, lq, dq, rfl, hs10⟩ := hl2
          clear hL
          obtain ⟨nv, hnv⟩ : ∃ nv, b.V.length = nv := ⟨_, rfl⟩
          obtain ⟨nl, hnl⟩ : ∃ nl, b.L.length = nl := ⟨_, rfl⟩
          obtain ⟨nd, hnd⟩ : ∃ nd, b.data.length = nd := ⟨_, rfl⟩
          have hnv2 : nv ≤ 100 := by have := HBB2.out.cf.vn; omega
          have hnl2 : nl ≤ 100 := by have := HBB2.out.cf.ln; omega
          rw [hnv, hnl, hnd] at hs10 ⊢
          have k11 := Kp.al w10 (.cells #[.int .i64 b.index, .int .i64 b.term, .slice VC nv vq, .slice LC nl lq, .slice DC nd dq] 27)
          have HJ := hid (blk_new w10 (.cells #[.int .i64 b.index, .int .i64 b.term, .slice VC nv vq, .slice LC nl lq, .slice DC nd dq] 27))
          have KZ0 := hid (HV9.out.kp.trans (HK10.out.trans k11))
          have z1 := blk_cell HJ.out; have z2 := blk_cell (KZ0.out.heap HB1.out trivial); have z3 := blk_cell (KZ0.out.heap HB2.out trivial)
          clear KZ0
          obtain ⟨w11, hw11⟩ : ∃ w11, w11 = w10.alloc (.cells #[.int .i64 b.index, .int .i64 b.term, .slice VC nv vq, .slice LC nl lq, .slice DC nd dq] 27) := ⟨_, rfl⟩
          rw [← hw11] at k11 HJ
          have HW11 := hid hw11
          have KZ := hid (HV9.out.kp.trans (HK10.out.trans k11))
          have HS11 := hid (hs10.snp.step k11)
          clear hs10 k11 hw11 hnv hnl hnd
          have df : (f1 != 0) = false := by simp [hf1]
          have df2 : (f1 == 0) = true := by simp [hf1]
          have dr : (r2 == 0) = true := by simp [hr2]
          go_wp2_with fail
          rw [← HW11.out]
          refine (rsamesnap_any b a VC LC DC VA LA DA nv vq nl lq nd dq vn vc ln lc dn dc (by omega) _ HS11.out (HA2.out.step KZ.out)).mono ?_
          obtain ⟨wa, hwa⟩ : ∃ wa, sameB b a = wa := ⟨_, rfl⟩
          rw [hwa]
          clear hwa
          rintro e w12 ⟨rfl, hk12⟩
          have KY := hid hk12
          have KX := hid (KZ.out.trans hk12)
          have y1 := blk_cell (hk12.heap HJ.out trivial); have y2 := blk_cell (KX.out.heap HB1.out trivial); have y3 := blk_cell (KX.out.heap HB2.out trivial)
          clear hk12
          cases wa
          all_goals
            go_wp2_with fail
            refine (rsamesnap_any b b VC LC DC VB LB DB nv vq nl lq nd dq vm vd lm ld dm dd (by omega) _ (HS11.out.step KY.out) (HBB2.out.step KX.out)).mono ?_
            obtain ⟨ib, hib⟩ : ∃ ib, sameB b b = ib := ⟨_, rfl⟩
            rw [hib]
            obtain rfl : ib = true := by rw [← hib]; exact sameB_refl b
            clear hib
            rintro e w13 ⟨rfl, hk13⟩
            have KV := hid (KX.out.trans hk13)
            clear hk13
            go_wp2_with fail
            refine (lives12_any _ (HG2.out.all KV.out)).mono ?_
            rintro e w20 ⟨rfl, hk20⟩
            have HK20 := hid (KB.out.trans (HK2.out.trans (KV.out.trans hk20)))
            clear hk20
            go_wp2_with fail
            go_ret
            exact ⟨rfl, HK20.out⟩
        · have dlt : decide (b.index < a.index) = true := decide_eq_true hlt
          have hl2 := hlo
          rw [hL] at hl2
          dsimp only at hl2
          obtain ⟨VC, LC, DC, vq, lq, dq, rfl, hs10⟩ := hl2
          clear hL
          obtain ⟨nv, hnv⟩ : ∃ nv, a.V.length = nv := ⟨_, rfl⟩
          obtain ⟨nl, hnl⟩ : ∃ nl, a.L.length = nl := ⟨_, rfl⟩
          obtain ⟨nd, hnd⟩ : ∃ nd, a.data.length = nd := ⟨_, rfl⟩
          have hnv2 : nv ≤ 100 := by have := HA2.out.cf.vn; omega
          have hnl2 : nl ≤ 100 := by have := HA2.out.cf.ln; omega
          rw [hnv, hnl, hnd] at hs10 ⊢
          have k11 := Kp.al w10 (.cells #[.int .i64 a.index, .int .i64 a.term, .slice VC nv vq, .slice LC nl lq, .slice DC nd dq] 27)
          have HJ := hid (blk_new w10 (.cells #[.int .i64 a.index, .int .i64 a.term, .slice VC nv vq, .slice LC nl lq, .slice DC nd dq] 27))
          have KZ0 := hid (HV9.out.kp.trans (HK10.out.trans k11))
          have z1 := blk_cell HJ.out; have z2 := blk_cell (KZ0.out.heap HB1.out trivial); have z3 := blk_cell (KZ0.out.heap HB2.out trivial)
          clear KZ0
          obtain ⟨w11, hw11⟩ : ∃ w11, w11 = w10.alloc (.cells #[.int .i64 a.index, .int .i64 a.term, .slice VC nv vq, .slice LC nl lq, .slice DC nd dq] 27) := ⟨_, rfl⟩
          rw [← hw11] at k11 HJ
          have HW11 := hid hw11
          have KZ := hid (HV9.out.kp.trans (HK10.out.trans k11))
          have HS11 := hid (hs10.snp.step k11)
          clear hs10 k11 hw11 hnv hnl hnd
          have df : (f1 != 0) = false := by simp [hf1]
          have df2 : (f1 == 0) = true := by simp [hf1]
          have dr : (r2 == 0) = true := by simp [hr2]
          go_wp2_with fail
          rw [← HW11.out]
          refine (rsamesnap_any a a VC LC DC VA LA DA nv vq nl lq nd dq vn vc ln lc dn dc (by omega) _ HS11.out (HA2.out.step KZ.out)).mono ?_
          obtain ⟨wa, hwa⟩ : ∃ wa, sameB a a = wa := ⟨_, rfl⟩
          rw [hwa]
          obtain rfl : wa = true := by rw [← hwa]; exact sameB_refl a
          clear hwa
          rintro e w12 ⟨rfl, hk12⟩
          have KY := hid hk12
          have KX := hid (KZ.out.trans hk12)
          have y1 := blk_cell (hk12.heap HJ.out trivial); have y2 := blk_cell (KX.out.heap HB1.out trivial); have y3 := blk_cell (KX.out.heap HB2.out trivial)
          clear hk12
          go_wp2_with fail
          refine (rsamesnap_any a b VC LC DC VB LB DB nv vq nl lq nd dq vm vd lm ld dm dd (by omega) _ (HS11.out.step KY.out) (HBB2.out.step KX.out)).mono ?_
          obtain ⟨ib, hib⟩ : ∃ ib, sameB a b = ib := ⟨_, rfl⟩
          rw [hib]
          clear hib
          rintro e w13 ⟨rfl, hk13⟩
          have KV := hid (KX.out.trans hk13)
          have x2 := blk_cell (KV.out.heap HB1.out trivial); have x3 := blk_cell (KV.out.heap HB2.out trivial)
          clear hk13
          cases ib
          all_goals
            go_wp2_with fail
            refine (lives12_any _ (HG2.out.all KV.out)).mono ?_
            rintro e w20 ⟨rfl, hk20⟩
            have HK20 := hid (KB.out.trans (HK2.out.trans (KV.out.trans hk20)))
            clear hk20
            go_wp2_with fail
            go_ret
            exact ⟨rfl, HK20.out⟩
      | true =>
        go_wp2_with fail
        refine (start_any p ro7 D3 w7 HV7.out.dk).mono ?_
        rintro e w9 ⟨rfl, hnx⟩
        obtain ⟨ro9, hv9⟩ := HV7.out.next hnx
        obtain ⟨E5, hE5⟩ : ∃ E5, D3.start = E5 := ⟨_, rfl⟩
        have ef5 : E5.F = D3.F := by rw [← hE5]; rfl
        have eb5 : E5.B = [] := by rw [← hE5]; exact BB3.out
        have eo5 : E5.off = false := by rw [← hE5]; rfl
        rw [hE5] at hv9
        have HV9 := hid hv9
        clear hnx hv9 hE5 hoff
        obtain ⟨hcs, hsz⟩ := HFIN.out E5 eo5 eb5 ef5
        have HSZ := hid hsz
        clear hsz
        go_wp2_with fail
        refine (load_any p ro9 E5 (key_size (F := D3.F) (by rw [ef5]) RM3.out.nm) (by rw [ef5]; have := RM3.out.fl; omega) HSZ.out w9 (HG2.out.all HV9.out.kp) HV9.out.dk).mono ?_
        rintro e w10 ⟨hk10, hlo⟩
        have HK10 := hid hk10
        rw [eo5] at hlo
        clear hk10 eo5 eb5 ef5
        rcases hcs with ⟨hL, hf1, hr2⟩ | ⟨hL, hf1, hr2⟩ | ⟨hL, hf1, hr2⟩ | ⟨hL, hr2⟩ | ⟨hL, hf1, hr2, hlt⟩
        · exact absurd HF1.out hf1
        · have hl2 := hlo
          rw [hL] at hl2
          dsimp only at hl2
          obtain ⟨VC, LC, DC, vq, lq, dq, rfl, hs10⟩ := hl2
          clear hL
          obtain ⟨nv, hnv⟩ : ∃ nv, a.V.length = nv := ⟨_, rfl⟩
          obtain ⟨nl, hnl⟩ : ∃ nl, a.L.length = nl := ⟨_, rfl⟩
          obtain ⟨nd, hnd⟩ : ∃ nd, a.data.length = nd := ⟨_, rfl⟩
          have hnv2 : nv ≤ 100 := by have := HA2.out.cf.vn; omega
          have hnl2 : nl ≤ 100 := by have := HA2.out.cf.ln; omega
          rw [hnv, hnl, hnd] at hs10 ⊢
          have k11 := Kp.al w10 (.cells #[.int .i64 a.index, .int .i64 a.term, .slice VC nv vq, .slice LC nl lq, .slice DC nd dq] 27)
          have HJ := hid (blk_new w10 (.cells #[.int .i64 a.index, .int .i64 a.term, .slice VC nv vq, .slice LC nl lq, .slice DC nd dq] 27))
          have KZ0 := hid (HV9.out.kp.trans (HK10.out.trans k11))
          have z1 := blk_cell HJ.out; have z2 := blk_cell (KZ0.out.heap HB1.out trivial); have z3 := blk_cell (KZ0.out.heap HB2.out trivial)
          clear KZ0
          obtain ⟨w11, hw11⟩ : ∃ w11, w11 = w10.alloc (.cells #[.int .i64 a.index, .int .i64 a.term, .slice VC nv vq, .slice LC nl lq, .slice DC nd dq] 27) := ⟨_, rfl⟩
          rw [← hw11] at k11 HJ
          have HW11 := hid hw11
          have KZ := hid (HV9.out.kp.trans (HK10.out.trans k11))
          have HS11 := hid (hs10.snp.step k11)
          clear hs10 k11 hw11 hnv hnl hnd
          have df : (f1 != 0) = false := by simp [hf1]
          have df2 : (f1 == 0) = true := by simp [hf1]
          have dr : (r2 == 0) = false := by simpa using hr2
          go_wp2_with fail
          rw [← HW11.out]
          refine (rsamesnap_any a a VC LC DC VA LA DA nv vq nl lq nd dq vn vc ln lc dn dc (by omega) _ HS11.out (HA2.out.step KZ.out)).mono ?_
          obtain ⟨wa, hwa⟩ : ∃ wa, sameB a a = wa := ⟨_, rfl⟩
          rw [hwa]
          obtain rfl : wa = true := by rw [← hwa]; exact sameB_refl a
          clear hwa
          rintro e w12 ⟨rfl, hk12⟩
          have KY := hid hk12
          have KX := hid (KZ.out.trans hk12)
          have y1 := blk_cell (hk12.heap HJ.out trivial); have y2 := blk_cell (KX.out.heap HB1.out trivial); have y3 := blk_cell (KX.out.heap HB2.out trivial)
          clear hk12
          go_wp2_with fail
          refine (rsamesnap_any a b VC LC DC VB LB DB nv vq nl lq nd dq vm vd lm ld dm dd (by omega) _ (HS11.out.step KY.out) (HBB2.out.step KX.out)).mono ?_
          obtain ⟨ib, hib⟩ : ∃ ib, sameB a b = ib := ⟨_, rfl⟩
          rw [hib]
          clear hib
          rintro e w13 ⟨rfl, hk13⟩
          have KV := hid (KX.out.trans hk13)
          have x2 := blk_cell (KV.out.heap HB1.out trivial); have x3 := blk_cell (KV.out.heap HB2.out trivial)
          clear hk13
          cases ib
          all_goals
            go_wp2_with fail
            refine (lives12_any _ (HG2.out.all KV.out)).mono ?_
            rintro e w20 ⟨rfl, hk20⟩
            have HK20 := hid (KB.out.trans (HK2.out.trans (KV.out.trans hk20)))
            clear hk20
            go_wp2_with fail
            go_ret
            exact ⟨rfl, HK20.out⟩
        · have hl2 := hlo
          rw [hL] at hl2
          dsimp only at hl2
          obtain ⟨VC, LC, DC, vq, lq, dq, rfl, hs10⟩ := hl2
          clear hL
          obtain ⟨nv, hnv⟩ : ∃ nv, b.V.length = nv := ⟨_, rfl⟩
          obtain ⟨nl, hnl⟩ : ∃ nl, b.L.length = nl := ⟨_, rfl⟩
          obtain ⟨nd, hnd⟩ : ∃ nd, b.data.length = nd := ⟨_, rfl⟩
          have hnv2 : nv ≤ 100 := by have := HBB2.out.cf.vn; omega
          have hnl2 : nl ≤ 100 := by have := HBB2.out.cf.ln; omega
          rw [hnv, hnl, hnd] at hs10 ⊢
          have k11 := Kp.al w10 (.cells #[.int .i64 b.index, .int .i64 b.term, .slice VC nv vq, .slice LC nl lq, .slice DC nd dq] 27)
          have HJ := hid (blk_new w10 (.cells #[.int .i64 b.index, .int .i64 b.term, .slice VC nv vq, .slice LC nl lq, .slice DC nd dq] 27))
          have KZ0 := hid (HV9.out.kp.trans (HK10.out.trans k11))
          have z1 := blk_cell HJ.out; have z2 := blk_cell (KZ0.out.heap HB1.out trivial); have z3 := blk_cell (KZ0.out.heap HB2.out trivial)
          clear KZ0
          obtain ⟨w11, hw11⟩ : ∃ w11, w11 = w10.alloc (.cells #[.int .i64 b.index, .int .i64 b.term, .slice VC nv vq, .slice LC nl lq, .slice DC nd dq] 27) := ⟨_, rfl⟩
          rw [← hw11] at k11 HJ
          have HW11 := hid hw11
          have KZ := hid (HV9.out.kp.trans (HK10.out.trans k11))
          have HS11 := hid (hs10.snp.step k11)
          clear hs10 k11 hw11 hnv hnl hnd
          have df : (f1 != 0) = false := by simp [hf1]
          have df2 : (f1 == 0) = true := by simp [hf1]
          have dr : (r2 == 0) = false := by simp [hr2]
          have dr9 : (r2 == 9) = true := by simp [hr2]
          go_wp2_with fail
          rw [← HW11.out]
          refine (rsamesnap_any b a VC LC DC VA LA DA nv vq nl lq nd dq vn vc ln lc dn dc (by omega) _ HS11.out (HA2.out.step KZ.out)).mono ?_
          obtain ⟨wa, hwa⟩ : ∃ wa, sameB b a = wa := ⟨_, rfl⟩
          rw [hwa]
          clear hwa
          rintro e w12 ⟨rfl, hk12⟩
          have KY := hid hk12
          have KX := hid (KZ.out.trans hk12)
          have y1 := blk_cell (hk12.heap HJ.out trivial); have y2 := blk_cell (KX.out.heap HB1.out trivial); have y3 := blk_cell (KX.out.heap HB2.out trivial)
          clear hk12
          cases wa
          all_goals
            go_wp2_with fail
            refine (rsamesnap_any b b VC LC DC VB LB DB nv vq nl lq nd dq vm vd lm ld dm dd (by omega) _ (HS11.out.step KY.out) (HBB2.out.step KX.out)).mono ?_
            obtain ⟨ib, hib⟩ : ∃ ib, sameB b b = ib := ⟨_, rfl⟩
            rw [hib]
            obtain rfl : ib = true := by rw [← hib]; exact sameB_refl b
            clear hib
            rintro e w13 ⟨rfl, hk13⟩
            have KV := hid (KX.out.trans hk13)
            clear hk13
            go_wp2_with fail
            refine (lives12_any _ (HG2.out.all KV.out)).mono ?_
            rintro e w20 ⟨rfl, hk20⟩
            have HK20 := hid (KB.out.trans (HK2.out.trans (KV.out.trans hk20)))
            clear hk20
            go_wp2_with fail
            go_ret
            exact ⟨rfl, HK20.out⟩
        · have hf1 := HF1.out
          have hl2 := hlo
          rw [hL] at hl2
          dsimp only at hl2
          obtain ⟨VC, LC, DC, vq, lq, dq, rfl, hs10⟩ := hl2
          clear hL
          obtain ⟨nv, hnv⟩ : ∃ nv, b.V.length = nv := ⟨_, rfl⟩
          obtain ⟨nl, hnl⟩ : ∃ nl, b.L.length = nl := ⟨_, rfl⟩
          obtain ⟨nd, hnd⟩ : ∃ nd, b.data.length = nd := ⟨_, rfl⟩
          have hnv2 : nv ≤ 100 := by have := HBB2.out.cf.vn; omega
          have hnl2 : nl ≤ 100 := by have := HBB2.out.cf.ln; omega
          rw [hnv, hnl, hnd] at hs10 ⊢
          have k11 := Kp.al w10 (.cells #[.int .i64 b.index, .int .i64 b.term, .slice VC nv vq, .slice LC nl lq, .slice DC nd dq] 27)
          have HJ := hid (blk_new w10 (.cells #[.int .i64 b.index, .int .i64 b.term, .slice VC nv vq, .slice LC nl lq, .slice DC nd dq] 27))
          have KZ0 := hid (HV9.out.kp.trans (HK10.out.trans k11))
          have z1 := blk_cell HJ.out; have z2 := blk_cell (KZ0.out.heap HB1.out trivial); have z3 := blk_cell (KZ0.out.heap HB2.out trivial)
          clear KZ0
          obtain ⟨w11, hw11⟩ : ∃ w11, w11 = w10.alloc (.cells #[.int .i64 b.index, .int .i64 b.term, .slice VC nv vq, .slice LC nl lq, .slice DC nd dq] 27) := ⟨_, rfl⟩
          rw [← hw11] at k11 HJ
          have HW11 := hid hw11
          have KZ := hid (HV9.out.kp.trans (HK10.out.trans k11))
          have HS11 := hid (hs10.snp.step k11)
          clear hs10 k11 hw11 hnv hnl hnd
          have df : (f1 != 0) = false := by simp [hf1]
          have df2 : (f1 == 0) = true := by simp [hf1]
          have dr : (r2 == 0) = true := by simp [hr2]
          go_wp2_with fail
          rw [← HW11.out]
          refine (rsamesnap_any b a VC LC DC VA LA DA nv vq nl lq nd dq vn vc ln lc dn dc (by omega) _ HS11.out (HA2.out.step KZ.out)).mono ?_
          obtain ⟨wa, hwa⟩ : ∃ wa, sameB b a = wa := ⟨_, rfl⟩
          rw [hwa]
          clear hwa
          rintro e w12 ⟨rfl, hk12⟩
          have KY := hid hk12
          have KX := hid (KZ.out.trans hk12)
          have y1 := blk_cell (hk12.heap HJ.out trivial); have y2 := blk_cell (KX.out.heap HB1.out trivial); have y3 := blk_cell (KX.out.heap HB2.out trivial)
          clear hk12
          cases wa
          all_goals
            go_wp2_with fail
            refine (rsamesnap_any b b VC LC DC VB LB DB nv vq nl lq nd dq vm vd lm ld dm dd (by omega) _ (HS11.out.step KY.out) (HBB2.out.step KX.out)).mono ?_
            obtain ⟨ib, hib⟩ : ∃ ib, sameB b b = ib := ⟨_, rfl⟩
            rw [hib]
            obtain rfl : ib = true := by rw [← hib]; exact sameB_refl b
            clear hib
            rintro e w13 ⟨rfl, hk13⟩
            have KV := hid (KX.out.trans hk13)
            clear hk13
            go_wp2_with fail
            refine (lives12_any _ (HG2.out.all KV.out)).mono ?_
            rintro e w20 ⟨rfl, hk20⟩
            have HK20 := hid (KB.out.trans (HK2.out.trans (KV.out.trans hk20)))
            clear hk20
            go_wp2_with fail
            go_ret
            exact ⟨rfl, HK20.out⟩
        · have dlt : decide (b.index < a.index) = true := decide_eq_true hlt
          have hl2 := hlo
          rw [hL] at hl2
          dsimp only at hl2
          obtain ⟨VC, LC, DC, vq, lq, dq, rfl, hs10⟩ := hl2
          clear hL
          obtain ⟨nv, hnv⟩ : ∃ nv, a.V.length = nv := ⟨_, rfl⟩
          obtain ⟨nl, hnl⟩ : ∃ nl, a.L.length = nl := ⟨_, rfl⟩
          obtain ⟨nd, hnd⟩ : ∃ nd, a.data.length = nd := ⟨_, rfl⟩
          have hnv2 : nv ≤ 100 := by have := HA2.out.cf.vn; omega
          have hnl2 : nl ≤ 100 := by have := HA2.out.cf.ln; omega
          rw [hnv, hnl, hnd] at hs10 ⊢
          have k11 := Kp.al w10 (.cells #[.int .i64 a.index, .int .i64 a.term, .slice VC nv vq, .slice LC nl lq, .slice DC nd dq] 27)
          have HJ := hid (blk_new w10 (.cells #[.int .i64 a.index, .int .i64 a.term, .slice VC nv vq, .slice LC nl lq, .slice DC nd dq] 27))
          have KZ0 := hid (HV9.out.kp.trans (HK10.out.trans k11))
          have z1 := blk_cell HJ.out; have z2 := blk_cell (KZ0.out.heap HB1.out trivial); have z3 := blk_cell (KZ0.out.heap HB2.out trivial)
          clear KZ0
          obtain ⟨w11, hw11⟩ : ∃ w11, w11 = w10.alloc (.cells #[.int .i64 a.index, .int .i64 a.term, .slice VC nv vq, .slice LC nl lq, .slice DC nd dq] 27) := ⟨_, rfl⟩
          rw [← hw11] at k11 HJ
          have HW11 := hid hw11
          have KZ := hid (HV9.out.kp.trans (HK10.out.trans k11))
          have HS11 := hid (hs10.snp.step k11)
          clear hs10 k11 hw11 hnv hnl hnd
          have df : (f1 != 0) = false := by simp [hf1]
          have df2 : (f1 == 0) = true := by simp [hf1]
          have dr : (r2 == 0) = true := by simp [hr2]
          go_wp2_with fail
          rw [← HW11.out]
          refine (rsamesnap_any a a VC LC DC VA LA DA nv vq nl lq nd dq vn vc ln lc dn dc (by omega) _ HS11.out (HA2.out.step KZ.out)).mono ?_
          obtain ⟨wa, hwa⟩ : ∃ wa, sameB a a = wa := ⟨_, rfl⟩
          rw [hwa]
          obtain rfl : wa = true := by rw [← hwa]; exact sameB_refl a
          clear hwa
          rintro e w12 ⟨rfl, hk12⟩
          have KY := hid hk12
          have KX := hid (KZ.out.trans hk12)
          have y1 := blk_cell (hk12.heap HJ.out trivial); have y2 := blk_cell (KX.out.heap HB1.out trivial); have y3 := blk_cell (KX.out.heap HB2.out trivial)
          clear hk12
          go_wp2_with fail
          refine (rsamesnap_any a b VC LC DC VB LB DB nv vq nl lq nd dq vm vd lm ld dm dd (by omega) _ (HS11.out.step KY.out) (HBB2.out.step KX.out)).mono ?_
          obtain ⟨ib, hib⟩ : ∃ ib, sameB a b = ib := ⟨_, rfl⟩
          rw [hib]
          clear hib
          rintro e w13 ⟨rfl, hk13⟩
          have KV := hid (KX.out.trans hk13)
          have x2 := blk_cell (KV.out.heap HB1.out trivial); have x3 := blk_cell (KV.out.heap HB2.out trivial)
          clear hk13
          cases ib
          all_goals
            go_wp2_with fail
            refine (lives12_any _ (HG2.out.all KV.out)).mono ?_
            rintro e w20 ⟨rfl, hk20⟩
            have HK20 := hid (KB.out.trans (HK2.out.trans (KV.out.trans hk20)))
            clear hk20
            go_wp2_with fail
            go_ret
            exact ⟨rfl, HK20.out⟩
    · have dix : decide (a.index ≤ 999999999) = false := decide_eq_false hix
      have HF1 := hid (show f1 ≠ 0 by intro h; have := HFST.out.1 h; rw [dix] at this; simp at this)
      have df0 : (f1 == 0) = false := by simpa using HF1.out
      clear hgd hix
      refine HRG.out.mono ?_
      rintro e w5 ⟨rfl, hk5⟩
      have HV5 := hid (HV4.out.all hk5)
      have d1 := blk_cell (HV5.out.kp.heap HB1.out trivial)
      have d3 := blk_cell (HV5.out.kp.heap HB3.out trivial)
      clear hk5
      go_wp2_with fail
      refine (arm_any p ro4 D1 (n : Int) keep hk1 w5 HV5.out.dk).mono ?_
      rintro e w6 ⟨rfl, hnx⟩
      obtain ⟨ro6, hv6⟩ := HV5.out.next hnx
      have HV6 := hid hv6
      have d2 := blk_cell (hv6.kp.heap HB2.out trivial)
      clear hnx hv6
      go_wp2_with fail
      refine (save_any p ro6 (armD D1 n keep) (M := 4) (by omega) RM2.out b VB LB DB vm vd lm ld dm dd (by omega) w6 (HG2.out.all HV6.out.kp) (HV6.out.rn _ HG2.out.lt.1 trivial) (HV6.out.rn _ HG2.out.lt.2 trivial) HV6.out.dk (HV6.out.snap HBB2.out)).mono ?_
      rw [E2.out]
      rintro e w7 ⟨rfl, hnx⟩
      obtain ⟨ro7, hv7⟩ := HV6.out.next hnx
      have HV7 := hid hv7
      have d3 := blk_cell (hv7.kp.heap HB3.out trivial)
      clear hnx hv7
      obtain ⟨pm, pfp, pbv, pBV, hpc⟩ := HV7.out.dk
      have HON := hid (on_any p pm D3 _ pbv w7 hpc.cell)
      clear hpc
      go_wp2_with fail
      refine HON.out.mono ?_
      rintro e w7' ⟨rfl, rfl⟩
      cases hoff : D3.off with
      | false =>
        go_wp2_with fail
        refine (crash_any p ro7 D3 keep hk1 w7 HV7.out.dk).mono ?_
        rintro e w8 ⟨rfl, hnx⟩
        obtain ⟨ro8, hv8⟩ := HV7.out.next hnx
        have HV8 := hid hv8
        clear hnx hv8
        go_wp2_with fail
        refine (start_any p ro8 (D3.crash keep) w8 HV8.out.dk).mono ?_
        rintro e w9 ⟨rfl, hnx⟩
        obtain ⟨ro9, hv9⟩ := HV8.out.next hnx
        obtain ⟨E5, hE5⟩ : ∃ E5, (D3.crash keep).start = E5 := ⟨_, rfl⟩
        obtain ⟨ef5, eb5, eo5⟩ := crash_same BB3.out keep
        rw [hE5] at ef5 eb5 eo5 hv9
        have HV9 := hid hv9
        clear hnx hv9 hE5 hoff
        obtain ⟨hcs, hsz⟩ := HFIN.out E5 eo5 eb5 ef5
        have HSZ := hid hsz
        clear hsz
        go_wp2_with fail
        refine (load_any p ro9 E5 (key_size (F := D3.F) (by rw [ef5]) RM3.out.nm) (by rw [ef5]; have := RM3.out.fl; omega) HSZ.out w9 (HG2.out.all HV9.out.kp) HV9.out.dk).mono ?_
        rintro e w10 ⟨hk10, hlo⟩
        have HK10 := hid hk10
        rw [eo5] at hlo
        clear hk10 eo5 eb5 ef5
        rcases hcs with ⟨hL, hf1, hr2⟩ | ⟨hL, hf1, hr2⟩ | ⟨hL, hf1, hr2⟩ | ⟨hL, hr2⟩ | ⟨hL, hf1, hr2, hlt⟩
        · have hl2 := hlo
          rw [hL] at hl2
          dsimp only at hl2
          subst hl2
          clear hL
          have dr : (r2 == 0) = false := by simpa using hr2
          have df : (f1 != 0) = true := by simpa using hf1
          have df2 : (f1 == 0) = false := by simpa using hf1
          have KZ := hid (HV9.out.kp.trans (HK10.out.trans (Kp.al w10 (.cells #[.int .i64 0, .int .i64 0, .slice none 0 0, .slice none 0 0, .slice none 0 0] 27))))
          go_wp2_with fail
          refine (lives12_any _ (HG2.out.all KZ.out)).mono ?_
          rintro e w20 ⟨rfl, hk20⟩
          have HK20 := hid (KB.out.trans (HK2.out.trans (KZ.out.trans hk20)))
          clear hk20
          go_wp2_with fail
          go_ret
          exact ⟨rfl, HK20.out⟩
        · exact absurd hf1 HF1.out
        · exact absurd hf1 HF1.out
        · have hf1 := HF1.out
          have hl2 := hlo
          rw [hL] at hl2
          dsimp only at hl2
          obtain ⟨VC, LC, DC, vq, lq, dq, rfl, hs10⟩ := hl2
          clear hL
          obtain ⟨nv, hnv⟩ : ∃ nv, b.V.length = nv := ⟨_, rfl⟩
          obtain ⟨nl, hnl⟩ : ∃ nl, b.L.length = nl := ⟨_, rfl⟩
          obtain ⟨nd, hnd⟩ : ∃ nd, b.data.length = nd := ⟨_, rfl⟩
          have hnv2 : nv ≤ 100 := by have := HBB2.out.cf.vn; omega
          have hnl2 : nl ≤ 100 := by have := HBB2.out.cf.ln; omega
          rw [hnv, hnl, hnd] at hs10 ⊢
          have k11 := Kp.al w10 (.cells #[.int .i64 b.index, .int .i64 b.term, .slice VC nv vq, .slice LC nl lq, .slice DC nd dq] 27)
          have HJ := hid (blk_new w10 (.cells #[.int .i64 b.index, .int .i64 b.term, .slice VC nv vq, .slice LC nl lq, .slice DC nd dq] 27))
          have KZ0 := hid (HV9.out.kp.trans (HK10.out.trans k11))
          have z1 := blk_cell HJ.out; have z2 := blk_cell (KZ0.out.heap HB1.out trivial); have z3 := blk_cell (KZ0.out.heap HB2.out trivial)
          clear KZ0
          obtain ⟨w11, hw11⟩ : ∃ w11, w11 = w10.alloc (.cells #[.int .i64 b.index, .int .i64 b.term, .slice VC nv vq, .slice LC nl lq, .slice DC nd dq] 27) := ⟨_, rfl⟩
          rw [← hw11] at k11 HJ
          have HW11 := hid hw11
          have KZ := hid (HV9.out.kp.trans (HK10.out.trans k11))
          have HS11 := hid (hs10.snp.step k11)
          clear hs10 k11 hw11 hnv hnl hnd
          have df : (f1 != 0) = true := by simpa using hf1
          have df2 : (f1 == 0) = false := by simpa using hf1
          have dr : (r2 == 0) = true := by simp [hr2]
          go_wp2_with fail
          rw [← HW11.out]
          refine (rsamesnap_any b b VC LC DC VB LB DB nv vq nl lq nd dq vm vd lm ld dm dd (by omega) _ HS11.out (HBB2.out.step KZ.out)).mono ?_
          obtain ⟨ib, hib⟩ : ∃ ib, sameB b b = ib := ⟨_, rfl⟩
          rw [hib]
          obtain rfl : ib = true := by rw [← hib]; exact sameB_refl b
          clear hib
          rintro e w13 ⟨rfl, hk13⟩
          have KV := hid (KZ.out.trans hk13)
          clear hk13
          go_wp2_with fail
          refine (lives12_any _ (HG2.out.all KV.out)).mono ?_
          rintro e w20 ⟨rfl, hk20⟩
          have HK20 := hid (KB.out.trans (HK2.out.trans (KV.out.trans hk20)))
          clear hk20
          go_wp2_with fail
          go_ret
          exact ⟨rfl, HK20.out⟩
        · exact absurd hf1 HF1.out
      | true =>
        go_wp2_with fail
        refine (start_any p ro7 D3 w7 HV7.out.dk).mono ?_
        rintro e w9 ⟨rfl, hnx⟩
        obtain ⟨ro9, hv9⟩ := HV7.out.next hnx
        obtain ⟨E5, hE5⟩ : ∃ E5, D3.start = E5 := ⟨_, rfl⟩
        have ef5 : E5.F = D3.F := by rw [← hE5]; rfl
        have eb5 : E5.B = [] := by rw [← hE5]; exact BB3.out
        have eo5 : E5.off = false := by rw [← hE5]; rfl
        rw [hE5] at hv9
        have HV9 := hid hv9
        clear hnx hv9 hE5 hoff
        obtain ⟨hcs, hsz⟩ := HFIN.out E5 eo5 eb5 ef5
        have HSZ := hid hsz
        clear hsz
        go_wp2_with fail
        refine (load_any p ro9 E5 (key_size (F := D3.F) (by rw [ef5]) RM3.out.nm) (by rw [ef5]; have := RM3.out.fl; omega) HSZ.out w9 (HG2.out.all HV9.out.kp) HV9.out.dk).mono ?_
        rintro e w10 ⟨hk10, hlo⟩
        have HK10 := hid hk10
        rw [eo5] at hlo
        clear hk10 eo5 eb5 ef5
        rcases hcs with ⟨hL, hf1, hr2⟩ | ⟨hL, hf1, hr2⟩ | ⟨hL, hf1, hr2⟩ | ⟨hL, hr2⟩ | ⟨hL, hf1, hr2, hlt⟩
        · have hl2 := hlo
          rw [hL] at hl2
          dsimp only at hl2
          subst hl2
          clear hL
          have dr : (r2 == 0) = false := by simpa using hr2
          have df : (f1 != 0) = true := by simpa using hf1
          have df2 : (f1 == 0) = false := by simpa using hf1
          have KZ := hid (HV9.out.kp.trans (HK10.out.trans (Kp.al w10 (.cells #[.int .i64 0, .int .i64 0, .slice none 0 0, .slice none 0 0, .slice none 0 0] 27))))
          go_wp2_with fail
          refine (lives12_any _ (HG2.out.all KZ.out)).mono ?_
          rintro e w20 ⟨rfl, hk20⟩
          have HK20 := hid (KB.out.trans (HK2.out.trans (KZ.out.trans hk20)))
          clear hk20
          go_wp2_with fail
          go_ret
          exact ⟨rfl, HK20.out⟩
        · exact absurd hf1 HF1.out
        · exact absurd hf1 HF1.out
        · have hf1 := HF1.out
          have hl2 := hlo
          rw [hL] at hl2
          dsimp only at hl2
          obtain ⟨VC, LC, DC, vq, lq, dq, rfl, hs10⟩ := hl2
          clear hL
          obtain ⟨nv, hnv⟩ : ∃ nv, b.V.length = nv := ⟨_, rfl⟩
          obtain ⟨nl, hnl⟩ : ∃ nl, b.L.length = nl := ⟨_, rfl⟩
          obtain ⟨nd, hnd⟩ : ∃ nd, b.data.length = nd := ⟨_, rfl⟩
          have hnv2 : nv ≤ 100 := by have := HBB2.out.cf.vn; omega
          have hnl2 : nl ≤ 100 := by have := HBB2.out.cf.ln; omega
          rw [hnv, hnl, hnd] at hs10 ⊢
          have k11 := Kp.al w10 (.cells #[.int .i64 b.index, .int .i64 b.term, .slice VC nv vq, .slice LC nl lq, .slice DC nd dq] 27)
          have HJ := hid (blk_new w10 (.cells #[.int .i64 b.index, .int .i64 b.term, .slice VC nv vq, .slice LC nl lq, .slice DC nd dq] 27))
          have KZ0 := hid (HV9.out.kp.trans (HK10.out.trans k11))
          have z1 := blk_cell HJ.out; have z2 := blk_cell (KZ0.out.heap HB1.out trivial); have z3 := blk_cell (KZ0.out.heap HB2.out trivial)
          clear KZ0
          obtain ⟨w11, hw11⟩ : ∃ w11, w11 = w10.alloc (.cells #[.int .i64 b.index, .int .i64 b.term, .slice VC nv vq, .slice LC nl lq, .slice DC nd dq] 27) := ⟨_, rfl⟩
          rw [← hw11] at k11 HJ
          have HW11 := hid hw11
          have KZ := hid (HV9.out.kp.trans (HK10.out.trans k11))
          have HS11 := hid (hs10.snp.step k11)
          clear hs10 k11 hw11 hnv hnl hnd
          have df : (f1 != 0) = true := by simpa using hf1
          have df2 : (f1 == 0) = false := by simpa using hf1
          have dr : (r2 == 0) = true := by simp [hr2]
          go_wp2_with fail
          rw [← HW11.out]
          refine (rsamesnap_any b b VC LC DC VB LB DB nv vq nl lq nd dq vm vd lm ld dm dd (by omega) _ HS11.out (HBB2.out.step KZ.out)).mono ?_
          obtain ⟨ib, hib⟩ : ∃ ib, sameB b b = ib := ⟨_, rfl⟩
          rw [hib]
          obtain rfl : ib = true := by rw [← hib]; exact sameB_refl b
          clear hib
          rintro e w13 ⟨rfl, hk13⟩
          have KV := hid (KZ.out.trans hk13)
          clear hk13
          go_wp2_with fail
          refine (lives12_any _ (HG2.out.all KV.out)).mono ?_
          rintro e w20 ⟨rfl, hk20⟩
          have HK20 := hid (KB.out.trans (HK2.out.trans (KV.out.trans hk20)))
          clear hk20
          go_wp2_with fail
          go_ret
          exact ⟨rfl, HK20.out⟩
        · exact absurd hf1 HF1.out
end Go.Proofs.YtbkhademplgicaaGreatDoor
