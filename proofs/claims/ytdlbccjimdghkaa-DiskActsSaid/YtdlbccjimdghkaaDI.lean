/- The disk: Append and Sync, walked once each. No condition on the disk but that it lies as Dk says. -/
import Derived.Test.YtdlbccjimdghkaaDH
namespace Go.Proofs.Ytdlbccjimdghkaa
open Go.RowKit
set_option linter.unusedVariables false
/-- What Append answers, and the state behind it. -/
def appErr (D : DS) (n : Nm) (b : By) : Int :=
  if D.off then 9 else match aget D.F n with
  | none => 4
  | some s => if D.fit then (if D.blocks - (usedOf D.F D.B : Int) < (grow D n s b.length : Int) then 7 else 0) else 9
def appD (D : DS) (n : Nm) (b : By) : DS :=
  if D.off then D else match aget D.F n with
  | none => D
  | some s => if D.fit then (if D.blocks - (usedOf D.F D.B : Int) < (grow D n s b.length : Int) then D.begun else D.begun.push n b) else D.begun
/-- An operation that answers v and leaves D'. -/
def Op1 (w : World) (ro : Nat → Role) (p : Nat) (v : Int) (D' : DS) (e : Ending) (w' : World) : Prop := e = .returned (.int .i64 v) ∧ Nx w ro p D' w'
/-- what is asked of the counters -/
structure DS.Ok (D : DS) : Prop where
  o0 : 0 ≤ D.ops
  o1 : D.ops ≤ 4611686018427387904
  f1 : D.fails ≤ 9223372036854775807
  bl : D.B.length ≤ 1073741824
theorem begun_fit {D : DS} (h : D.fit = true) : D.begun.F = D.F ∧ D.begun.B = D.B ∧ D.begun.blocks = D.blocks ∧ D.begun.off = D.off := by
  have h1 : D.fails ≠ 1 := by simpa [DS.fit] using h
  unfold DS.begun
  rw [if_neg h1]
  split <;> exact ⟨rfl, rfl, rfl, rfl⟩
theorem aget_mem {κ β : Type} [DecidableEq κ] {F : List (κ × β)} {n : κ} {s : β} (h : aget F n = some s) : (n, s) ∈ F := by
  unfold aget at h
  cases hf : F.find? (fun x => x.1 == n) with
  | none => rw [hf] at h; cases h
  | some x =>
    rw [hf] at h
    have h1 := List.mem_of_find?_eq_some hf
    have h2 := List.find?_some hf
    simp only [Option.map_some, Option.some.injEq] at h
    have : x.1 = n := by simpa using h2
    rw [← this, ← h]
    exact h1

theorem aget_keys {κ β γ : Type} [DecidableEq κ] (F : List (κ × β)) (g : κ → γ) (n : κ) : aget (F.map fun x => (x.1, g x.1)) n = (aget F n).map fun _ => g n := by
  induction F with
  | nil => rfl
  | cons x l ih =>
    unfold aget at ih ⊢
    simp only [List.map_cons, List.find?_cons]
    by_cases h : x.1 = n
    · simp [h]
    · have : (x.1 == n) = false := by simpa using h
      rw [this]
      exact ih
theorem AppPost.pre {w w1 : World} {ro : Nat → Role} {p : Nat} {D : DS} {n : Nm} {s b : By} {e : Ending} {w' : World} (k : Kp (fun z => ro z = .none) w w1) (h : AppPost w1 ro p D n s b e w') : AppPost w ro p D n s b e w' := by
  unfold AppPost at h ⊢
  split at h
  · rename_i hc
    rw [if_pos hc]
    exact ⟨h.1, Nx.trans ⟨ro, fun _ _ h => h, k, h.2⟩⟩
  · rename_i hc
    rw [if_neg hc]
    exact ⟨h.1, Nx.trans ⟨ro, fun _ _ h => h, k, h.2⟩⟩

theorem en39 : Enters Try.prog 39 := enters_of Try.func39 (by kernel_rfl) rfl
theorem appPost_num {w : World} {ro : Nat → Role} {p : Nat} {D : DS} {n : Nm} {s b : By} {e : Ending} {w' : World} (h : AppPost w ro p D n s b e w') : ∃ n, e = .returned (.int .i64 n) := by
  unfold AppPost at h
  split at h <;> exact ⟨_, h.1⟩

set_option maxRecDepth 100000 in
set_option maxHeartbeats 1000000 in
theorem append_any (p : Nat) (ro : Nat → Role) (D : DS) (hok : D.Ok) (n : Nm) (b : By) (A : Option Addr) (c : Nat) (w : World) (h : Dk w p ro D)
    (hb : Foot (fun k => ro k = .none) (Sl A b.length c 1 (u8s b)) w) (hbl : b.length ≤ 549755813888) :
    Calls Try.prog 17 #[.pointer (some ⟨p, 0, none⟩), .string n, .slice A b.length c] w (Op1 w ro p (appErr D n b) (appD D n b)) := by
  have HD := hid h
  obtain ⟨m, fp, bv, BV, h⟩ := h
  have H := hid h
  have HB := hid hb
  have hp := blk_lt h.cell
  have b1 := h.cell
  have hmp : m < w.heap.size := h.lt m (by rw [h.rm]; decide)
  have hnl : ro w.heap.size = .none := by
    by_cases e : ro w.heap.size = .none
    · exact e
    · exact absurd (h.lt _ e) (Nat.lt_irrefl _)
  obtain ⟨bo, hbo⟩ : ∃ x, D.off = x := ⟨_, rfl⟩
  have HBO := hid hbo
  clear h hb hbo
  cases bo
  · obtain ⟨y, hy⟩ : ∃ y, aget D.F n = y := ⟨_, rfl⟩
    have HY := hid hy
    have hmap : (aget (D.F.map fun x => (x.1, Value.pointer (some ⟨fp x.1, 0, none⟩))) n) = y.map fun _ => Value.pointer (some ⟨fp n, 0, none⟩) := by
      rw [aget_keys D.F (fun x => Value.pointer (some ⟨fp x, 0, none⟩)), hy]
    have HMAP := hid hmap
    have hz : ∀ w : World, (zeroValue 62).run Try.prog w = .ok (.pointer none) w := fun w => by kernel_rfl
    clear hy hmap
    have c1 := blk_cell b1
    have B1 := hid b1
    unfold dcs at c1
    have hmf : ∀ (fn : Fn) (first cap : Array Value) (w : World), (Instr.makeFunc fn first cap).run Try.prog w = .ok (.func fn first cap) w := fun _ _ _ _ => rfl
    clear b1
    cases y with
    | none =>
      have hv : (aget (D.F.map fun x => (x.1, Value.pointer (some ⟨fp x.1, 0, none⟩))) n).getD (.pointer none) = .pointer none := by rw [HMAP.out]; rfl
      have HV := hid hv
      clear hv
      go_enter Try.func17, Try.ntmps17
      go_wp2_with fail
      refine (may_any p m D _ bv _ (by exact blk_alloc (blk_alloc B1.out _) _)).mono ?_
      rintro e w1 ⟨rfl, rfl⟩
      rw [show mayErr D = 0 from by rw [mayErr, HBO.out]; rfl]
      go_wp2_with (at_lookup; go_loud (refine wpList_lookup_val strKey Try.underlying54 (H.out.map.all ((Kp.al _ _).alloc _)) n (hz _) HV.out rfl _ _ rfl rfl rfl ?_))
      go_ret
      exact ⟨by rw [appErr, HBO.out, HY.out]; rfl, by rw [appD, HBO.out, HY.out]; exact HD.out.nx ((((Kp.al _ _)).alloc _).alloc _)⟩
    | some s =>
      have hv : (aget (D.F.map fun x => (x.1, Value.pointer (some ⟨fp x.1, 0, none⟩))) n).getD (.pointer none) = .pointer (some ⟨fp n, 0, none⟩) := by rw [HMAP.out]; rfl
      have HV := hid hv
      clear hv
      go_enter Try.func17, Try.ntmps17
      go_wp2_with fail
      refine (may_any p m D _ bv _ (by exact blk_alloc (blk_alloc B1.out _) _)).mono ?_
      rintro e w1 ⟨rfl, rfl⟩
      rw [show mayErr D = 0 from by rw [mayErr, HBO.out]; rfl]
      go_wp2_with (at_lookup; go_loud (refine wpList_lookup_val strKey Try.underlying54 (H.out.map.all ((Kp.al _ _).alloc _)) n (hz _) HV.out rfl _ _ rfl rfl rfl ?_))
      have hk3 : Kp All w (((w.alloc (.cells #[.pointer (some ⟨p, 0, none⟩)] 27)).alloc (.cells #[.slice A b.length c] 32)).alloc (.cells #[.pointer (some ⟨fp n, 0, none⟩)] 62)) := ((Kp.al _ _).alloc _).alloc _
      have H3 := H.out.kept hk3 (fun _ _ => trivial)
      have hrn : ∀ z, w.heap.size ≤ z → ro z = .none := fun z hz => by
        by_cases e : ro z = .none
        · exact e
        · exact absurd (H.out.lt z e) (by omega)
      have hc : D.fit = true → ∀ w1, Dk0 w1 p ro D.begun m fp bv BV → Kp (fun b => b ≠ p) (((w.alloc (.cells #[.pointer (some ⟨p, 0, none⟩)] 27)).alloc (.cells #[.slice A b.length c] 32)).alloc (.cells #[.pointer (some ⟨fp n, 0, none⟩)] 62)) w1 → Calls Try.prog 39 #[.pointer (some ⟨w.heap.size + 1 + 1, 0, none⟩), .pointer (some ⟨w.heap.size + 1, 0, none⟩), .pointer (some ⟨w.heap.size, 0, none⟩)] w1 (AppPost w ro p D.begun n s b) := by
        intro hfit w1 h1 k1
        obtain ⟨eF, eB, _⟩ := begun_fit hfit
        have kk : Kp (fun z => ro z = .none) w w1 := hk3.all.trans (k1.mono fun z _ hz => ndisk H.out.rp z hz)
        have x1 := blk_new w (.cells #[.pointer (some ⟨p, 0, none⟩)] 27)
        have x2 := blk_new (w.alloc (.cells #[.pointer (some ⟨p, 0, none⟩)] 27)) (.cells #[.slice A b.length c] 32)
        have x3 := blk_new ((w.alloc (.cells #[.pointer (some ⟨p, 0, none⟩)] 27)).alloc (.cells #[.slice A b.length c] 32)) (.cells #[.pointer (some ⟨fp n, 0, none⟩)] 62)
        rw [World.size_alloc] at x2
        rw [World.size_alloc, World.size_alloc] at x3
        refine (append1_any p ro D.begun m fp bv BV n s b A c _ _ _ w1 h1 (by rw [eF]; exact aget_mem HY.out) (HB.out.step kk) hbl (by rw [eB]; exact hok.bl) (k1.heap x3 (by omega)) (k1.heap (blk_alloc x2 _) (by omega)) (k1.heap (blk_alloc (blk_alloc x1 _) _) (by omega)) (hrn _ (by omega)) (hrn _ (by omega)) (hrn _ (by omega))).mono ?_
        intro e w' h
        exact h.pre kk
      refine (does_any p ro D hok.o0 hok.o1 hok.f1 _ m fp bv BV H3 39 _ en39 (AppPost w ro p D.begun n s b) (fun _ _ h => appPost_num h) hc).mono ?_
      rintro e w1 ⟨hn1, hn2⟩
      cases hfit : D.fit with
      | false =>
        obtain ⟨rfl, hnx⟩ := hn1 hfit
        have HN := hid hnx
        have HFT := hid hfit
        clear hn1 hn2 hnx hfit hc H3
        go_wp2_with fail
        go_ret
        refine ⟨?_, ?_⟩
        · rw [appErr, HBO.out, HY.out]; simp [HFT.out]
        · rw [appD, HBO.out, HY.out]
          simp only [HFT.out, Bool.false_eq_true, if_false]
          exact Nx.pre hk3 HN.out
      | true =>
        have hp2 := hn2 hfit
        obtain ⟨v, rfl⟩ := appPost_num hp2
        obtain ⟨eF, eB, eb, _⟩ := begun_fit hfit
        have HP2 := hid hp2
        have HFT := hid hfit
        have HEF := hid eF; have HEB := hid eB; have HEb := hid eb
        clear hn1 hn2 hp2 hfit hc H3 eF eB eb
        go_wp2_with fail
        go_ret
        have := HP2.out
        unfold AppPost grow at this
        rw [HEF.out, HEB.out, HEb.out] at this
        unfold Op1
        rw [appErr, appD, HBO.out, HY.out]
        simp only [HFT.out, if_true, Bool.false_eq_true, if_false]
        unfold grow
        split at this <;> rename_i hcond
        · rw [if_pos hcond, if_pos hcond]; exact this
        · rw [if_neg hcond, if_neg hcond]; exact this
  · go_enter Try.func17, Try.ntmps17
    go_wp2_with fail
    refine (may_any p m D _ bv _ (by exact blk_alloc (blk_alloc b1 _) _)).mono ?_
    rintro e w1 ⟨rfl, rfl⟩
    rw [show mayErr D = 9 from by rw [mayErr, HBO.out]; rfl]
    go_wp2_with fail
    go_ret
    exact ⟨by rw [appErr, HBO.out]; rfl, by rw [appD, HBO.out]; exact HD.out.nx (((Kp.al _ _)).alloc _)⟩
end Go.Proofs.Ytdlbccjimdghkaa
