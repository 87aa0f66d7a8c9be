/- The disk: a new file, walked once. No condition on the disk but that it lies as Dk says. -/
import Derived.Test.YtdlbccjimdghkaaDJ
namespace Go.Proofs.Ytdlbccjimdghkaa
open Go.RowKit
set_option linter.unusedVariables false
theorem moreOf_none {B : List (Nm × By)} {n : Nm} (h : ∀ x ∈ B, x.1 ≠ n) : moreOf B n = 0 := by
  induction B with
  | nil => rfl
  | cons x l ih =>
    rw [moreOf, if_neg (h x (List.mem_cons_self ..)), ih fun y hy => h y (List.mem_cons_of_mem _ hy)]
theorem aget_none {κ β : Type} [DecidableEq κ] {F : List (κ × β)} {n : κ} (h : aget F n = none) : n ∉ F.map (·.1) := by
  intro hm
  obtain ⟨x, hx, rfl⟩ := List.mem_map.1 hm
  unfold aget at h
  rw [Option.map_eq_none_iff, List.find?_eq_none] at h
  exact absurd (h x hx) (by simp)
def DS.add (D : DS) (n : Nm) : DS := { D with F := D.F ++ [(n, [])] }
theorem Dk0.added {w wF : World} {p : Nat} {ro : Nat → Role} {D : DS} {m : Nat} {fp : Nm → Nat} {bv : Value} {BV : List (Nm × By × Value)} (h : Dk0 w p ro D m fp bv BV) {n : Nm} {N : Nat} (hn : aget D.F n = none) (hN : w.heap.size ≤ N)
    (hcell : wF.heap[p]? = some (.cells (dcs D ((usedOf D.F D.B : Int) + 1) m bv) 57 (0, 0))) (hmap : SMap wF m (aset (D.F.map fun x => (x.1, Value.pointer (some ⟨fp x.1, 0, none⟩))) n (.pointer (some ⟨N, 0, none⟩))))
    (hfile : wF.heap[N]? = some (.cells #[.slice none 0 0, .int .i64 0] 65 (0, 0))) (kp : Kp (fun z => z ≠ p ∧ z ≠ m) w wF) (hus : (usedOf D.F D.B : Int) < D.blocks) : Nx w ro p (D.add n) wF := by
  have hk := aget_none hn
  have hb : ∀ x ∈ D.B, x.1 ≠ n := fun x hx e => hk (by rw [← e]; exact h.names x hx)
  have hNr : ro N = .none := h.rnew N hN
  have hold : ∀ z, ro z ≠ .none → z ≠ N := fun z hz e => hz (e ▸ hNr)
  have hkeep : ∀ z, ro z ≠ .none → ro z ≠ .disk → ro z ≠ .map → z ≠ p ∧ z ≠ m := fun z _ h2 h3 => ⟨(fun e => h2 (e ▸ h.rp)), (fun e => h3 (e ▸ h.rm))⟩
  have hfF : ∀ x ∈ D.F, (if x.1 = n then N else fp x.1) = fp x.1 := fun x hx => if_neg fun e => hk (by rw [← e]; exact List.mem_map.2 ⟨x, hx, rfl⟩)
  have hus1 : usedOf (D.F ++ [(n, [])]) D.B = usedOf D.F D.B + 1 := by
    simp only [usedOf, List.map_append, List.map_cons, List.map_nil, List.sum_append, List.sum_cons, List.sum_nil, List.length_nil, moreOf_none hb]
    rfl
  refine ⟨fun z => if z = N then .file else ro z, ⟨m, fun k => if k = n then N else fp k, bv, BV, ?_, ?_, ⟨?_, ?_, ?_⟩, ⟨h.bf.eq, ?_, ?_, ?_, h.bf.one⟩, ?_, ?_, ?_, ?_, h.bl, h.kw, ?_⟩, ?_, ?_⟩
  · rw [hcell]
    show some (Obj.cells (dcs D ((usedOf D.F D.B : Int) + 1) m bv) _ _) = some (Obj.cells (dcs (D.add n) (usedOf (D.F ++ [(n, [])]) D.B : Nat) m bv) _ _)
    rw [hus1]
    rfl
  · have e : (D.add n).F.map (fun x => (x.1, Value.pointer (some ⟨if x.1 = n then N else fp x.1, 0, none⟩))) = aset (D.F.map fun x => (x.1, Value.pointer (some ⟨fp x.1, 0, none⟩))) n (.pointer (some ⟨N, 0, none⟩)) := by
      show (D.F ++ [(n, [])]).map _ = _
      unfold aset
      rw [aget_keys D.F (fun x => Value.pointer (some ⟨fp x, 0, none⟩)), hn]
      simp only [Option.map_none, Option.isSome_none, Bool.false_eq_true, if_false, List.map_append, List.map_cons, List.map_nil, if_true]
      congr 1
      apply List.map_congr_left
      intro x hx
      rw [hfF x hx]
    rw [e]
    exact hmap
  · intro x hx
    rcases List.mem_append.1 hx with hx | hx
    · obtain ⟨v, h1, h2, h3⟩ := h.fl.lie x hx
      have hr := h.fl.role x hx
      simp only [hfF x hx]
      refine ⟨v, kp.heap h1 (hkeep _ (by rw [hr]; decide) (by rw [hr]; decide) (by rw [hr]; decide)), own_kept h2 kp fun b hb => ?_, fun b hb => ?_⟩
      · have := h3 b hb
        exact hkeep b (by rw [this]; simp) (by rw [this]; simp) (by rw [this]; simp)
      · have := h3 b hb
        rw [if_neg (hold b (by rw [this]; simp))]
        exact this
    · simp only [List.mem_singleton] at hx
      subst hx
      simp only [if_true]
      refine ⟨.slice none 0 0, ?_, World.ownsRow_nil _ _ _ _, by simp [Value.ownBlock]⟩
      show _ = some (Obj.cells #[_, .int .i64 (moreOf D.B n : Nat)] _ _)
      rw [moreOf_none hb]
      exact hfile
  · intro x hx
    rcases List.mem_append.1 hx with hx | hx
    · have hr := h.fl.role x hx
      simp only [hfF x hx]
      rw [if_neg (hold _ (by rw [hr]; decide))]
      exact hr
    · simp only [List.mem_singleton] at hx
      subst hx
      simp
  · intro x hx y hy e
    have hfN : ∀ x ∈ D.F, fp x.1 ≠ N := fun x hx => hold _ (by rw [h.fl.role x hx]; decide)
    rcases List.mem_append.1 hx with hx | hx <;> rcases List.mem_append.1 hy with hy | hy
    · simp only [hfF x hx, hfF y hy] at e
      exact h.fl.inj x hx y hy e
    · simp only [List.mem_singleton] at hy
      subst hy
      simp only [hfF x hx, if_true] at e
      exact absurd e (hfN x hx)
    · simp only [List.mem_singleton] at hx
      subst hx
      simp only [hfF y hy, if_true] at e
      exact absurd e.symm (hfN y hy)
    · simp only [List.mem_singleton] at hx hy
      rw [hx, hy]
  · have e : wcs (fun k => if k = n then N else fp k) BV = wcs fp BV := by
      unfold wcs
      have : ∀ x ∈ BV, x.1 ≠ n := fun (x : Nm × By × Value) hx => hb (x.1, x.2.1) (by rw [h.bf.eq]; exact List.mem_map.2 ⟨x, hx, rfl⟩)
      clear hmap hcell
      generalize BV = L at this
      induction L with
      | nil => rfl
      | cons y l ih =>
        simp only [List.flatMap_cons]
        rw [ih (fun x hx => this x (List.mem_cons_of_mem _ hx)), if_neg (this y (List.mem_cons_self ..))]
    rw [e]
    refine own_kept h.bf.row kp fun b hb => ?_
    have := h.bf.role b hb
    exact hkeep b (by rw [this]; simp) (by rw [this]; simp) (by rw [this]; simp)
  · intro b hb
    have := h.bf.role b hb
    rw [if_neg (hold b (by rw [this]; simp))]
    exact this
  · intro x hx
    obtain ⟨h1, h2⟩ := h.bf.data x hx
    refine ⟨own_kept h1 kp fun b hb => ?_, fun b hb => ?_⟩
    · have := h2 b hb
      exact hkeep b (by rw [this]; simp) (by rw [this]; simp) (by rw [this]; simp)
    · have := h2 b hb
      rw [if_neg (hold b (by rw [this]; simp))]
      exact this
  · rw [if_neg (hold p (by rw [h.rp]; simp))]; exact h.rp
  · rw [if_neg (hold m (by rw [h.rm]; simp))]; exact h.rm
  · intro z hz
    split at hz
    · rename_i e; rw [e]; exact blk_lt hfile
    · exact Nat.lt_of_lt_of_le (h.lt z hz) kp.size
  · intro x hx
    have := h.names x hx
    show x.1 ∈ (D.F ++ [(n, [])] : List (Nm × By)).map (fun y => y.1)
    simp only [List.map_append]
    exact List.mem_append_left _ this
  · show (usedOf (D.F ++ [(n, [])]) D.B : Int) ≤ D.blocks
    rw [hus1]
    omega
  · intro z hz hzn
    show (if z = N then Role.file else ro z) = .none
    rw [if_neg (by omega)]
    exact hzn
  · exact kp.mono (T := fun z => ro z = .none) fun z _ hz => ⟨(fun e => by rw [e, h.rp] at hz; cases hz), (fun e => by rw [e, h.rm] at hz; cases hz)⟩

def createErr1 (D : DS) : Int := if D.blocks ≤ (usedOf D.F D.B : Int) then 7 else 0
def createD1 (D : DS) (n : Nm) : DS := if D.blocks ≤ (usedOf D.F D.B : Int) then D else D.add n

set_option maxRecDepth 100000 in
set_option maxHeartbeats 1000000 in
theorem create1_new (p : Nat) (ro : Nat → Role) (D : DS) (n : Nm) (db nb : Nat) (w : World) (h : Dk w p ro D) (hn : aget D.F n = none)
    (b4 : w.heap[nb]? = some (.cells #[.string n] 9 (0, 0))) (b5 : w.heap[db]? = some (.cells #[.pointer (some ⟨p, 0, none⟩)] 27 (0, 0))) (r4 : ro nb = .none) (r5 : ro db = .none) :
    Calls Try.prog 35 #[.pointer (some ⟨db, 0, none⟩), .pointer (some ⟨nb, 0, none⟩)] w (Op1 w ro p (createErr1 D) (createD1 D n)) := by
  obtain ⟨m, fp, bv, BV, h⟩ := h
  have H := hid h
  have HN := hid hn
  have b1 := h.cell
  have hbl := h.us
  have hbl2 := h.bl
  have hmm : ro m = .map := h.rm
  have hpm : p ≠ m := fun e => by have := h.rp; rw [e, h.rm] at this; cases this
  have n4p : nb ≠ p := ndisk h.rp nb r4
  have n5p : db ≠ p := ndisk h.rp db r5
  have n4m : nb ≠ m := fun e => by rw [e, h.rm] at r4; cases r4
  have n5m : db ≠ m := fun e => by rw [e, h.rm] at r5; cases r5
  have hp : p < w.heap.size := blk_lt b1
  have hm : m < w.heap.size := h.lt m (by rw [h.rm]; decide)
  have hdb : db < w.heap.size := blk_lt b5
  have hnb : nb < w.heap.size := blk_lt b4
  have hv : (aget (D.F.map fun x => (x.1, Value.pointer (some ⟨fp x.1, 0, none⟩))) n).getD (.pointer none) = .pointer none := by rw [aget_keys D.F (fun x => Value.pointer (some ⟨fp x, 0, none⟩)), hn]; rfl
  have hz : ∀ w : World, (zeroValue 62).run Try.prog w = .ok (.pointer none) w := fun w => by kernel_rfl
  have hlk := fun k => ((h.map.all ((Kp.refl All w).drewN k)).lookup strKey Try.underlying54 n (.pointer none) (hz _)).2
  rw [hv] at hlk
  obtain ⟨u, hu⟩ : ∃ u, usedOf D.F D.B = u := ⟨_, rfl⟩
  have HU := hid hu
  rw [hu] at b1 hbl
  have c1 := blk_cell b1; have c4 := blk_cell b4; have c5 := blk_cell b5
  have f1 := blk_free b1
  have B1 := hid b1; have B4 := hid b4; have B5 := hid b5
  unfold dcs at c1
  clear h hn hv hu b1 b4 b5
  by_cases hr : D.blocks ≤ (u : Int)
  · have hd : decide (D.blocks ≤ (u : Int)) = true := decide_eq_true hr
    have he : Hid (createErr1 D = 7 ∧ createD1 D n = D) := hid (by rw [createErr1, createD1, HU.out, if_pos hr, if_pos hr]; exact ⟨rfl, rfl⟩)
    clear hr
    go_enter Try.func35, Try.ntmps35
    go_wp2_with fail
    go_quiet (fail)
    generalize nq = qa
    go_wp2_with fail
    go_quiet (fail)
    generalize nq = qb
    go_wp2_with fail
    go_ret
    exact ⟨by rw [he.out.1]; rfl, by rw [he.out.2]; exact Dk.nx ⟨m, fp, bv, BV, H.out⟩ (((Kp.refl All w).drewN _).drewN _)⟩
  · have hd : decide (D.blocks ≤ (u : Int)) = false := decide_eq_false hr
    have he : Hid (createErr1 D = 0 ∧ createD1 D n = D.add n) := hid (by rw [createErr1, createD1, HU.out, if_neg hr, if_neg hr]; exact ⟨rfl, rfl⟩)
    go_enter Try.func35, Try.ntmps35
    go_wp2_with fail
    go_quiet (fail)
    generalize nq = qa
    go_wp2_with fail
    go_quiet (fail)
    generalize nq = qb
    go_wp2_with fail
    obtain ⟨W, hW⟩ : ∃ W, W = (w.drewN qa).drewN qb := ⟨_, rfl⟩
    rw [← hW]
    have kW : Kp All w W := by rw [hW]; exact ((Kp.refl All w).drewN _).drewN _
    have hWs : W.heap.size = w.heap.size := by rw [hW]; rfl
    clear hW c1 c4 c5 f1 hlk
    have k1 : Kp All w (W.alloc (.cells #[.slice none 0 0, .int .i64 0] 65)).drew := (kW.alloc _).drew
    have b1 := k1.heap B1.out trivial
    have b4 := k1.heap B4.out trivial
    have b5 := k1.heap B5.out trivial
    have b6 : (W.alloc (.cells #[.slice none 0 0, .int .i64 0] 65)).drew.heap[w.heap.size]? = some (.cells #[.slice none 0 0, .int .i64 0] 65) := by rw [← hWs]; exact blk_new W (.cells #[.slice none 0 0, .int .i64 0] 65)
    obtain ⟨w3, hr3, hm3, hk3⟩ := KMap.update2 strKey Try.underlying54 (H.out.map.all k1) n (.pointer (some ⟨w.heap.size, 0, none⟩))
    have c1 := blk_cell (kW.heap B1.out trivial)
    have c4 := blk_cell (kW.heap B4.out trivial)
    have c5 := blk_cell (kW.heap B5.out trivial)
    have cA := blk_cell (hk3.heap b1 hpm)
    have cB := blk_cell (hk3.heap b4 n4m)
    have cC := blk_cell (hk3.heap b5 n5m)
    have fA := blk_free (hk3.heap b1 hpm)
    have cA2 := blk_cell b1
    have cB2 := blk_cell b4
    have cC2 := blk_cell b5
    have hWm : w.heap.size ≠ m := by omega
    have B13 := hid (hk3.heap b1 hpm)
    have B63 := hid (hk3.heap b6 hWm)
    have K13 := hid k1; have M3 := hid hm3; have HK3 := hid hk3
    have hpW : p < W.heap.size := by omega
    have hdW : db < W.heap.size := by omega
    have hnW : nb < W.heap.size := by omega
    unfold dcs at c1 cA cA2
    clear b1 b4 b5 b6 k1 hm3 hk3
    go_region_held3 (fun w' => (∀ i, w'.cell? ⟨p, i, none⟩ = (#[.int .i64 D.blocks, .int .i64 u, .map (some m), bv, .bool D.off, .int .i64 D.ops, .int .i64 D.fails, .int .i64 D.keep] : Array Value)[i]?) ∧ (∀ i, w'.cell? ⟨nb, i, none⟩ = (#[.string n] : Array Value)[i]?) ∧ (∀ i, w'.cell? ⟨db, i, none⟩ = (#[.pointer (some ⟨p, 0, none⟩)] : Array Value)[i]?))
      (first | exact ⟨c1, c4, c5⟩ | exact ⟨cA2, cB2, cC2⟩ | exact ⟨cA, cB, cC⟩)
      (fail)
    go_wp2_with fail
    go_ret
    have hcellF := blk_set B13.out 1 (.int .i64 ((u : Int) + 1))
    refine ⟨by rw [he.out.1]; rfl, ?_⟩
    rw [he.out.2]
    have hsz : w.heap.size ≤ w3.heap.size := Nat.le_trans K13.out.size HK3.out.size
    refine H.out.added (N := w.heap.size) HN.out (Nat.le_refl _) ?_ (M3.out.kept (S := fun z => z ≠ p) ((Kp.refl _ _).setOut (by simp) _) (Ne.symm hpm)) (blk_far B63.out (by simp; omega) _) (((K13.out.mono fun _ _ _ => trivial).trans (HK3.out.mono fun z _ hz => hz.2)).setOut (by simp) _) (by rw [HU.out]; omega)
    rw [HU.out]
    exact hcellF
end Go.Proofs.Ytdlbccjimdghkaa
