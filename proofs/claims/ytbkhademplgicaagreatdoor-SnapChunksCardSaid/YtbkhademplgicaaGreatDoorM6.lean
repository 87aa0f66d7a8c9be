/- The disk: the body of Append, walked once. No condition on the disk but that it lies as Dk says. The disk: Append and Sync, walked once each. No condition on the disk but that it lies as Dk says. The disk: Sync, Used, Read: walked once each. No condition on the disk but that it lies as Dk says. The disk: a new file, walked once. No condition on the disk but that it lies as Dk says. Which names are good: the program's function and the document's. No condition but that the name is a string. The disk: Create of a new name, and Read: walked once each. No condition on the disk but that it lies as Dk says. -/
import Derived.Test.YtbkhademplgicaaGreatDoorM5
import Derived.IntWalk
import Derived.Deep.Onto
import Derived.LaidEqlPtr
set_option linter.unusedVariables false
set_option linter.unusedSimpArgs false
namespace Go.Proofs.YtbkhademplgicaaGreatDoor
open Go.RowKit
set_option linter.unusedVariables false
set_option linter.unusedSimpArgs false
theorem needs_int (x : Int) (n : Nat) (hx : x = (n : Int)) (hn : n ≤ 1099511627776) (w : World) : Calls Tryz.prog 101 #[.int .i64 x] w fun e w' => e = .returned (.int .i64 (needs n)) ∧ w = w' := by
  subst hx
  exact needs_any n hn w
theorem sl_one (w : World) (a b : Value) (t : TypeId) : Sl (some ⟨w.heap.size, 0, none⟩) 1 1 2 [a, b] (w.alloc (.cells #[a, b] t)) := by
  refine ⟨rfl, Nat.le_refl _, fun _ => ⟨_, 0, rfl, fun j u hj => ?_⟩⟩
  rw [Nat.zero_add, blk_cell (blk_new w _)]
  simpa using hj
theorem two_one (a : Option Addr) (b : Option Addr) (n c : Nat) : ∀ u ∈ [Value.pointer a, Value.slice b n c], u.oneCell' = true := by
  intro u hu
  simp at hu
  rcases hu with rfl | rfl <;> rfl
set_option maxRecDepth 100000 in
set_option maxHeartbeats 2000000 in
theorem append1_any (p : Nat) (ro : Nat → Role) (D : DS) (m : Nat) (fp : Nm → Nat) (bv : Value) (BV : List (Nm × By × Value)) (n : Nm) (s b : By) (A : Option Addr) (c fb bb db : Nat) (w : World) (h : Dk0 w p ro D m fp bv BV) (hs : (n, s) ∈ D.F)
    (hb : Foot (fun k => ro k = .none) (Sl A b.length c 1 (u8s b)) w) (hbl : b.length ≤ 549755813888) (hBl : D.B.length ≤ 1073741824)
    (b3 : w.heap[fb]? = some (.cells #[.pointer (some ⟨fp n, 0, none⟩)] 105 (0, 0))) (b4 : w.heap[bb]? = some (.cells #[.slice A b.length c] 25 (0, 0))) (b5 : w.heap[db]? = some (.cells #[.pointer (some ⟨p, 0, none⟩)] 51 (0, 0)))
    (r3 : ro fb = .none) (r4 : ro bb = .none) (r5 : ro db = .none) :
    Calls Tryz.prog 100 #[.pointer (some ⟨fb, 0, none⟩), .pointer (some ⟨bb, 0, none⟩), .pointer (some ⟨db, 0, none⟩)] w (AppPost w ro p D n s b) := by
  obtain ⟨BA, bc, rfl⟩ := own_shape h.bf.row
  have H := hid h
  have HS := hid hs
  have HB := hid hb
  have hsz := h.size_le hs
  obtain ⟨sv, q1, q2, q3⟩ := h.fl.lie _ hs
  have q4 := h.fl.role _ hs
  obtain ⟨SA, sc, rfl⟩ := own_shape q2
  have hnd : (D.F.map (·.1)).Nodup := by
    have := h.map.nodup strKey
    simpa [List.map_map, Function.comp_def] using this
  have hu := used_push (B := D.B) (b := b) hnd hs
  have hul := h.us
  have hbl2 := h.bl
  have b1 := h.cell
  have HG : Hid (grow D n s b.length = needs (s.length + moreOf D.B n + b.length) - needs (s.length + moreOf D.B n)) := hid rfl
  simp only at q1 q2 q3 q4 hsz
  obtain ⟨f, hf⟩ : ∃ f, fp n = f := ⟨_, rfl⟩
  obtain ⟨lb, hlb⟩ : ∃ z, b.length = z := ⟨_, rfl⟩
  obtain ⟨ls, hls⟩ : ∃ z, s.length = z := ⟨_, rfl⟩
  obtain ⟨mo, hmo⟩ : ∃ z, moreOf D.B n = z := ⟨_, rfl⟩
  obtain ⟨u, hu1⟩ : ∃ z, usedOf D.F D.B = z := ⟨_, rfl⟩
  obtain ⟨L, hL⟩ : ∃ z, D.B.length = z := ⟨_, rfl⟩
  have HLL := hid hL
  have hrow := h.bf.row
  have hrole := h.bf.role
  rw [hL] at b1 hrow hrole hBl
  have HROW := hid hrow
  have HROLE := hid hrole
  clear hrow hrole
  clear hL
  have HF := hid hf; have HL := hid hlb; have HLS := hid hls; have HMO := hid hmo; have HU1 := hid hu1
  rw [hmo, hls, hlb] at hu
  rw [hmo, hls] at hsz
  rw [hf, hmo, hls] at q1
  rw [hls] at q2
  rw [hls, hf] at q3
  rw [hf] at q4 b3
  rw [hlb] at b4 hbl
  rw [hu1] at b1 hul hu
  have b2 := q1
  have hpf : f ≠ p := fun e => by rw [e, h.rp] at q4; cases q4
  have hgr : needs (ls + mo) ≤ needs (ls + mo + lb) := by unfold needs; omega
  have hgr2 : needs (ls + mo + lb) ≤ 1099511627776 := by unfold needs; omega
  clear h hs hb hf hlb hls hmo hu1 q1
  have HU := hid hu; clear hu
  have c1 := blk_cell b1; have c2 := blk_cell b2; have c3 := blk_cell b3; have c4 := blk_cell b4; have c5 := blk_cell b5; have f1 := blk_free b1; have f2 := blk_free b2; have f3 := blk_free b3; have f4 := blk_free b4; have f5 := blk_free b5; have B1 := hid b1; have B2 := hid b2; have B3 := hid b3; have B4 := hid b4; have B5 := hid b5; unfold dcs at c1; clear b1 b2 b3 b4 b5
  by_cases hr : D.blocks - (u : Int) < ((needs (ls + mo + lb) - needs (ls + mo) : Nat) : Int)
  · have hd : decide (D.blocks - (u : Int) < (needs (ls + mo + lb) : Int) - (needs (ls + mo) : Int)) = true := decide_eq_true (by omega)
    have hg : Hid (D.blocks - (usedOf D.F D.B : Int) < (grow D n s b.length : Int)) := hid (by rw [grow, HLS.out, HMO.out, HL.out, HU1.out]; exact hr)
    have hz1 : ls + mo + lb ≤ 1099511627776 := by omega
    have hw1 : IntKind.i64.wrap ((ls : Int) + (mo : Int) + (lb : Int)) = (ls : Int) + (mo : Int) + (lb : Int) := IntWalk.i64_in _ (by omega)
    have hw2 : IntKind.i64.wrap ((needs (ls + mo + lb) : Int) - (needs (ls + mo) : Int)) = (needs (ls + mo + lb) : Int) - (needs (ls + mo) : Int) := IntWalk.i64_in _ (by omega)
    have hw3 : IntKind.i64.wrap (D.blocks - (u : Int)) = D.blocks - (u : Int) := IntWalk.i64_in _ (by omega)
    clear hr
    go_enter Tryz.func100, Tryz.ntmps100
    go_wp2_with fail
    go_quiet ((first | (go_at_call 102; refine (size_any f SA ls sc mo (by omega) (by omega) _ (by exact B2.out)).mono ?_; rintro e w1 ⟨rfl, q, rfl⟩; exact ⟨rfl, _, World.drewN_drewN _ _ _⟩) | (go_at_call 101; refine (needs_int _ (ls + mo + lb) ?_ ?_ _).mono ?_; omega; omega; rintro e w2 ⟨rfl, rfl⟩; exact ⟨rfl, _, rfl⟩) | (go_at_call 101; refine (needs_int _ (ls + mo) ?_ ?_ _).mono ?_; omega; omega; rintro e w2 ⟨rfl, rfl⟩; exact ⟨rfl, _, rfl⟩)))
    go_wp2_with fail
    go_quiet (fail)
    go_wp2_with fail
    go_ret
    unfold AppPost
    rw [if_pos hg.out]
    exact ⟨rfl, Dk.nx ⟨m, fp, _, BV, H.out⟩ (((Kp.refl All w).drewN _).drewN _)⟩
  · have hd : decide (D.blocks - (u : Int) < (needs (ls + mo + lb) : Int) - (needs (ls + mo) : Int)) = false := decide_eq_false (by omega)
    have hz1 : ls + mo + lb ≤ 1099511627776 := by omega
    have hw1 : IntKind.i64.wrap ((ls : Int) + (mo : Int) + (lb : Int)) = (ls : Int) + (mo : Int) + (lb : Int) := IntWalk.i64_in _ (by omega)
    have hw2 : IntKind.i64.wrap ((needs (ls + mo + lb) : Int) - (needs (ls + mo) : Int)) = (needs (ls + mo + lb) : Int) - (needs (ls + mo) : Int) := IntWalk.i64_in _ (by omega)
    have hw3 : IntKind.i64.wrap (D.blocks - (u : Int)) = D.blocks - (u : Int) := IntWalk.i64_in _ (by omega)
    have hw4 : IntKind.i64.wrap ((u : Int) + ((needs (ls + mo + lb) : Int) - (needs (ls + mo) : Int))) = (u : Int) + ((needs (ls + mo + lb) : Int) - (needs (ls + mo) : Int)) := IntWalk.i64_in _ (by omega)
    have hw5 : IntKind.i64.wrap ((mo : Int) + (lb : Int)) = (mo : Int) + (lb : Int) := IntWalk.i64_in _ (by omega)
    have HZ1 := hid hz1
    go_enter Tryz.func100, Tryz.ntmps100
    go_wp2_with fail
    go_quiet ((first | (go_at_call 102; refine (size_any f SA ls sc mo (by omega) (by omega) _ (by exact B2.out)).mono ?_; rintro e w1 ⟨rfl, q, rfl⟩; exact ⟨rfl, _, World.drewN_drewN _ _ _⟩) | (go_at_call 101; refine (needs_int _ (ls + mo + lb) ?_ ?_ _).mono ?_; omega; omega; rintro e w2 ⟨rfl, rfl⟩; exact ⟨rfl, _, rfl⟩) | (go_at_call 101; refine (needs_int _ (ls + mo) ?_ ?_ _).mono ?_; omega; omega; rintro e w2 ⟨rfl, rfl⟩; exact ⟨rfl, _, rfl⟩)))
    generalize nq = qa
    go_wp2_with fail
    go_quiet (fail)
    generalize nq = qb
    go_wp2_with fail
    refine RegionLast.wp_region_end_quiet (by kernel_rfl) (by kernel_rfl) (by kernel_rfl) ?_; simp only [List.length_cons, List.length_nil, Nat.zero_add, Nat.reduceAdd, Nat.reduceSub, List.take_succ_cons, List.take_zero, List.drop_succ_cons, List.drop_zero]
    repeat (go_big_quiet_step (fail))
    refine wpQuiet_nil ?_; intro _ hw'; obtain ⟨nq, hw''⟩ := hw'; subst hw''
    generalize nq = qc
    go_wp2_with fail
    have n3p : fb ≠ p := ndisk H.out.rp fb r3
    have n4p : bb ≠ p := ndisk H.out.rp bb r4
    have n5p : db ≠ p := ndisk H.out.rp db r5
    have n3f : fb ≠ f := fun e => by rw [e, q4] at r3; cases r3
    have n4f : bb ≠ f := fun e => by rw [e, q4] at r4; cases r4
    have n5f : db ≠ f := fun e => by rw [e, q4] at r5; cases r5
    have b1 := blk_far (w := ((w.drewN (qa + qb)).setCell ⟨p, 1, none⟩ (.int .i64 ((u : Int) + ((needs (ls + mo + lb) : Int) - (needs (ls + mo) : Int))))).drewN qc) (p := ⟨f, 1, none⟩) (by exact blk_set (w := w.drewN (qa + qb)) (by exact B1.out) 1 (.int .i64 ((u : Int) + ((needs (ls + mo + lb) : Int) - (needs (ls + mo) : Int))))) (Ne.symm hpf) (.int .i64 ((mo : Int) + (lb : Int)))
    have b2 := blk_set (w := ((w.drewN (qa + qb)).setCell ⟨p, 1, none⟩ (.int .i64 ((u : Int) + ((needs (ls + mo + lb) : Int) - (needs (ls + mo) : Int))))).drewN qc) (by exact blk_far (w := w.drewN (qa + qb)) (p := ⟨p, 1, none⟩) (by exact B2.out) hpf (.int .i64 ((u : Int) + ((needs (ls + mo + lb) : Int) - (needs (ls + mo) : Int))))) 1 (.int .i64 ((mo : Int) + (lb : Int)))
    have b3 := blk_far (w := ((w.drewN (qa + qb)).setCell ⟨p, 1, none⟩ (.int .i64 ((u : Int) + ((needs (ls + mo + lb) : Int) - (needs (ls + mo) : Int))))).drewN qc) (p := ⟨f, 1, none⟩) (by exact blk_far (w := w.drewN (qa + qb)) (p := ⟨p, 1, none⟩) (by exact B3.out) n3p (.int .i64 ((u : Int) + ((needs (ls + mo + lb) : Int) - (needs (ls + mo) : Int))))) n3f (.int .i64 ((mo : Int) + (lb : Int)))
    have b4 := blk_far (w := ((w.drewN (qa + qb)).setCell ⟨p, 1, none⟩ (.int .i64 ((u : Int) + ((needs (ls + mo + lb) : Int) - (needs (ls + mo) : Int))))).drewN qc) (p := ⟨f, 1, none⟩) (by exact blk_far (w := w.drewN (qa + qb)) (p := ⟨p, 1, none⟩) (by exact B4.out) n4p (.int .i64 ((u : Int) + ((needs (ls + mo + lb) : Int) - (needs (ls + mo) : Int))))) n4f (.int .i64 ((mo : Int) + (lb : Int)))
    have b5 := blk_far (w := ((w.drewN (qa + qb)).setCell ⟨p, 1, none⟩ (.int .i64 ((u : Int) + ((needs (ls + mo + lb) : Int) - (needs (ls + mo) : Int))))).drewN qc) (p := ⟨f, 1, none⟩) (by exact blk_far (w := w.drewN (qa + qb)) (p := ⟨p, 1, none⟩) (by exact B5.out) n5p (.int .i64 ((u : Int) + ((needs (ls + mo + lb) : Int) - (needs (ls + mo) : Int))))) n5f (.int .i64 ((mo : Int) + (lb : Int)))
    have k2 : Kp (fun b => b ≠ p ∧ b ≠ f) w ((((w.drewN (qa + qb)).setCell ⟨p, 1, none⟩ (.int .i64 ((u : Int) + ((needs (ls + mo + lb) : Int) - (needs (ls + mo) : Int))))).drewN qc).setCell ⟨f, 1, none⟩ (.int .i64 ((mo : Int) + (lb : Int)))) := ((((Kp.refl _ _).drewN _).setOut (by simp) _).drewN _).setOut (by simp) _
    rw [show ((dcs D (u : Int) m (.slice BA L bc)).setIfInBounds 1 (.int .i64 ((u : Int) + ((needs (ls + mo + lb) : Int) - (needs (ls + mo) : Int))))) = dcs D ((u : Int) + ((needs (ls + mo + lb) : Int) - (needs (ls + mo) : Int))) m (.slice BA L bc) from rfl] at b1
    rw [show ((#[.slice SA ls sc, .int .i64 (mo : Int)] : Array Value).setIfInBounds 1 (.int .i64 ((mo : Int) + (lb : Int)))) = #[.slice SA ls sc, .int .i64 ((mo : Int) + (lb : Int))] from rfl] at b2
    obtain ⟨w2, hW2⟩ : ∃ w2, w2 = ((((w.drewN (qa + qb)).setCell ⟨p, 1, none⟩ (.int .i64 ((u : Int) + ((needs (ls + mo + lb) : Int) - (needs (ls + mo) : Int))))).drewN qc).setCell ⟨f, 1, none⟩ (.int .i64 ((mo : Int) + (lb : Int)))) := ⟨_, rfl⟩
    rw [← hW2] at b1 b2 b3 b4 b5 k2 ⊢
    clear c1 c2 c3 c4 c5 f1 f2 f3 f4 f5 hW2 hw1 hw2 hw3 hw4 hw5
    have c1 := blk_cell b1; have c2 := blk_cell b2; have c3 := blk_cell b3; have c4 := blk_cell b4; have c5 := blk_cell b5; have f1 := blk_free b1; have f2 := blk_free b2; have f3 := blk_free b3; have f4 := blk_free b4; have f5 := blk_free b5; have B1 := hid b1; have B2 := hid b2; have B3 := hid b3; have B4 := hid b4; have B5 := hid b5; unfold dcs at c1; clear b1 b2 b3 b4 b5
    have hK2 := hid k2
    clear k2
    have hbF : Foot All (Sl A lb c 1 (u8s b)) w2.drew := by
      have := HB.out
      rw [HL.out] at this
      exact (this.step ((hK2.out.mono fun k _ hk => ⟨(fun e => by rw [e, H.out.rp] at hk; cases hk), (fun e => by rw [e, q4] at hk; cases hk)⟩).drew)).mono fun _ _ _ => trivial
    have HBF := hid hbF
    clear hbF
    have hn8 : lb ≤ 140737488355328 := by omega
    have o3 := u8s_one b
    have HO3 := hid o3
    clear o3
    have hne : ∀ z, (Value.slice BA L bc).ownBlock = some z → z ≠ p ∧ z ≠ f := fun z hz => ⟨(fun e => by have := HROLE.out z hz; rw [e, H.out.rp] at this; cases this), (fun e => by have := HROLE.out z hz; rw [e, q4] at this; cases this)⟩
    have hnn : ∀ z, ro z = .none → some z ≠ (Value.slice BA L bc).ownBlock := fun z hz e => by have := HROLE.out z e.symm; rw [hz] at this; cases this
    have hnp : some p ≠ (Value.slice BA L bc).ownBlock := fun e => (hne p e.symm).1 rfl
    have hnf : some f ≠ (Value.slice BA L bc).ownBlock := fun e => (hne f e.symm).2 rfl
    have hn3 := hnn fb r3
    have hn4 := hnn bb r4
    have hn5 := hnn db r5
    have hg : Hid ((grow D n s b.length : Int) ≤ D.blocks - (usedOf D.F D.B : Int)) := hid (by rw [grow, HLS.out, HMO.out, HL.out, HU1.out]; exact hr)
    have hL32 : (L + 1) * 32 ≤ 140737488355328 := by omega
    refine RegionLast.wp_region_end_held (S := fun w' => (∀ i, w'.cell? ⟨p, i, none⟩ = (#[.int .i64 D.blocks, .int .i64 ((u : Int) + ((needs (ls + mo + lb) : Int) - (needs (ls + mo) : Int))), .map (some m), .slice BA L bc, .bool D.off, .int .i64 D.ops, .int .i64 D.fails, .int .i64 D.keep] : Array Value)[i]?) ∧ (∀ i, w'.cell? ⟨fb, i, none⟩ = (#[.pointer (some ⟨f, 0, none⟩)] : Array Value)[i]?) ∧ (∀ i, w'.cell? ⟨bb, i, none⟩ = (#[.slice A lb c] : Array Value)[i]?) ∧ (∀ i, w'.cell? ⟨db, i, none⟩ = (#[.pointer (some ⟨p, 0, none⟩)] : Array Value)[i]?)) (by kernel_rfl) (by kernel_rfl) ⟨c1, c3, c4, c5⟩ (fun hHeld => ?_)
    simp only [List.length_cons, List.length_nil, Nat.zero_add, Nat.reduceAdd, Nat.reduceSub, List.take_succ_cons, List.take_zero, List.drop_succ_cons, List.drop_zero]
    (refine wpAnyH_take (i := 0) (oi := _) (v := ?_) (by (simp only [List.getElem?_toArray, List.getElem?_cons_succ, List.getElem?_cons_zero]); rfl) (by kernel_rfl) (by kernel_rfl) (by kernel_rfl) (by exact fun _ _ _ h => h) (Or.inl ⟨by rfl, ?_⟩) (by assumption) ?_; rotate_left; focus ((intro w hSw; (try dsimp only at hSw); go_simp) <;> with_reducible rfl); (try simp only [Act.put, List.getElem_toArray, List.getElem_cons_succ, List.getElem_cons_zero, List.setIfInBounds_toArray, List.set_cons_zero, List.set_cons_succ]))
    (refine wpAnyH_take (i := 1) (oi := _) (v := ?_) (by (simp only [List.getElem?_toArray, List.getElem?_cons_succ, List.getElem?_cons_zero]); rfl) (by kernel_rfl) (by kernel_rfl) (by kernel_rfl) (by exact fun _ _ _ h => h) (Or.inl ⟨by rfl, ?_⟩) (by assumption) ?_; rotate_left; focus ((intro w hSw; (try dsimp only at hSw); go_simp) <;> with_reducible rfl); (try simp only [Act.put, List.getElem_toArray, List.getElem_cons_succ, List.getElem_cons_zero, List.setIfInBounds_toArray, List.set_cons_zero, List.set_cons_succ]))
    (refine wpAnyH_take (i := 2) (oi := _) (v := ?_) (by (simp only [List.getElem?_toArray, List.getElem?_cons_succ, List.getElem?_cons_zero]); rfl) (by kernel_rfl) (by kernel_rfl) (by kernel_rfl) (by exact fun _ _ _ h => h) (Or.inl ⟨by rfl, ?_⟩) (by assumption) ?_; rotate_left; focus ((intro w hSw; (try dsimp only at hSw); go_simp) <;> with_reducible rfl); (try simp only [Act.put, List.getElem_toArray, List.getElem_cons_succ, List.getElem_cons_zero, List.setIfInBounds_toArray, List.set_cons_zero, List.set_cons_succ]))
    (refine wpAnyH_take (i := 3) (oi := _) (v := ?_) (by (simp only [List.getElem?_toArray, List.getElem?_cons_succ, List.getElem?_cons_zero]); rfl) (by kernel_rfl) (by kernel_rfl) (by kernel_rfl) (by exact fun _ _ _ h => h) (Or.inl ⟨by rfl, ?_⟩) (by assumption) ?_; rotate_left; focus ((intro w hSw; (try dsimp only at hSw); go_simp) <;> with_reducible rfl); (try simp only [Act.put, List.getElem_toArray, List.getElem_cons_succ, List.getElem_cons_zero, List.setIfInBounds_toArray, List.set_cons_zero, List.set_cons_succ]))
    (refine wpAnyH_take (i := 4) (oi := _) (v := ?_) (by (simp only [List.getElem?_toArray, List.getElem?_cons_succ, List.getElem?_cons_zero]); rfl) (by kernel_rfl) (by kernel_rfl) (by kernel_rfl) (by exact fun _ _ _ h => h) (Or.inl ⟨by rfl, ?_⟩) (by assumption) ?_; rotate_left; focus ((intro w hSw; (try dsimp only at hSw); go_simp) <;> with_reducible rfl); (try simp only [Act.put, List.getElem_toArray, List.getElem_cons_succ, List.getElem_cons_zero, List.setIfInBounds_toArray, List.set_cons_zero, List.set_cons_succ]))
    (refine wpAnyH_take (i := 5) (oi := _) (v := ?_) (by (simp only [List.getElem?_toArray, List.getElem?_cons_succ, List.getElem?_cons_zero]); rfl) (by kernel_rfl) (by kernel_rfl) (by kernel_rfl) (by exact fun _ _ _ h => h) (Or.inl ⟨by rfl, ?_⟩) (by assumption) ?_; rotate_left; focus ((intro w hSw; (try dsimp only at hSw); go_simp) <;> with_reducible rfl); (try simp only [Act.put, List.getElem_toArray, List.getElem_cons_succ, List.getElem_cons_zero, List.setIfInBounds_toArray, List.set_cons_zero, List.set_cons_succ]))
    (refine wpAnyH_take (i := 6) (oi := _) (v := ?_) (by (simp only [List.getElem?_toArray, List.getElem?_cons_succ, List.getElem?_cons_zero]); rfl) (by kernel_rfl) (by kernel_rfl) (by kernel_rfl) (by exact fun _ _ _ h => h) (Or.inl ⟨by rfl, ?_⟩) (by assumption) ?_; rotate_left; focus ((intro w hSw; (try dsimp only at hSw); go_simp) <;> with_reducible rfl); (try simp only [Act.put, List.getElem_toArray, List.getElem_cons_succ, List.getElem_cons_zero, List.setIfInBounds_toArray, List.set_cons_zero, List.set_cons_succ]))
    (try simp only [Act.put, List.setIfInBounds_toArray, List.set_cons_zero, List.set_cons_succ])
    refine wpAnyH_ready (rs := [7]) (by kernel_rfl) (by simp) ?_
    refine AllReadyH.cons rfl ?_ AllReadyH.nil
    intro KQ hKQ
    refine step_plain rfl ?_
    go_simp
    refine (clone8_any A lb c (u8s b) _ (by exact HBF.out) ?_ ?_).mono ?_
    exact hn8
    exact HO3.out
    rintro e w3 ⟨⟨v, rfl, hv⟩, hk⟩
    obtain ⟨Av, cv, rfl⟩ := own_shape hv
    have bA := hk.heap (by exact B1.out) trivial
    have bB := hk.heap (by exact B2.out) trivial
    have bC := hk.heap (by exact B3.out) trivial
    have bD := hk.heap (by exact B4.out) trivial
    have bE := hk.heap (by exact B5.out) trivial
    have cA := blk_cell bA
    have cC := blk_cell bC
    have cD := blk_cell bD
    have cE := blk_cell bE
    have fA := blk_free bA
    have sA := blk_lt bA
    have sC := blk_lt bC
    have sD := blk_lt bD
    have sE := blk_lt bE
    have cA2 := fun o => blk_cell (blk_alloc bA o)
    have cC2 := fun o => blk_cell (blk_alloc bC o)
    have cD2 := fun o => blk_cell (blk_alloc bD o)
    have cE2 := fun o => blk_cell (blk_alloc bE o)
    unfold dcs at cA cA2
    have hrow3 := fun o => own_kept HROW.out (((hK2.out.drew).trans hk.all).alloc o) hne
    have HV := hid hv
    have HK := hid hk
    have BA1 := hid bA
    have BB1 := hid bB
    have BC1 := hid bC
    have BD1 := hid bD
    have BE1 := hid bE
    clear hv hk bA bB bC bD bE
    refine hKQ.out _ _ ⟨cA, cC, cD, cE⟩ (fun hHeld2 => ?_)
    clear hKQ KQ
    (refine wpAnyH_take (i := 8) (oi := _) (v := ?_) (by (simp only [List.getElem?_toArray, List.getElem?_cons_succ, List.getElem?_cons_zero]); rfl) (by kernel_rfl) (by kernel_rfl) (by kernel_rfl) (by exact fun _ _ _ h => h) (Or.inl ⟨by rfl, ?_⟩) (by assumption) ?_; rotate_left; focus ((intro w hSw; (try dsimp only at hSw); go_simp) <;> with_reducible rfl); (try simp only [Act.put, List.getElem_toArray, List.getElem_cons_succ, List.getElem_cons_zero, List.setIfInBounds_toArray, List.set_cons_zero, List.set_cons_succ]))
    (try simp only [Act.put, List.setIfInBounds_toArray, List.set_cons_zero, List.set_cons_succ])
    refine wpAnyH_ready (rs := [9]) (by kernel_rfl) (by simp) ?_
    refine AllReadyH.cons rfl ?_ AllReadyH.nil
    intro KQ hKQ
    refine step_plain rfl ?_
    go_simp
    refine hKQ.out _ _ ⟨cA2 _, cC2 _, cD2 _, cE2 _⟩ (fun hHeld3 => ?_)
    clear hKQ KQ
    (try simp only [Act.put, List.setIfInBounds_toArray, List.set_cons_zero, List.set_cons_succ])
    refine wpAnyH_ready (rs := [10]) (by kernel_rfl) (by simp) ?_
    refine AllReadyH.cons rfl ?_ AllReadyH.nil
    intro KQ hKQ
    refine step_plain rfl (wp_app elw (hrow3 _) (sl_one w3 (.pointer (some ⟨f, 0, none⟩)) (.slice Av lb cv) 133) (two_one _ _ _ _) hL32 (Nat.zero_le _) _ _ rfl rfl rfl ?_)
    intro v' w4 hown4 hg4 hob4 hnil4
    obtain ⟨A4, e4, rfl⟩ := own_shape hown4
    have kg4 := Kp.grown hg4
    have bA := kg4.heap (blk_alloc BA1.out _) hnp
    have bB := kg4.heap (blk_alloc BB1.out _) hnf
    have bC := kg4.heap (blk_alloc BC1.out _) hn3
    have bD := kg4.heap (blk_alloc BD1.out _) hn4
    have bE := kg4.heap (blk_alloc BE1.out _) hn5
    have cA4 := blk_cell bA
    have cC3 := blk_cell bC
    have cD3 := blk_cell bD
    have cE3 := blk_cell bE
    have fA4 := blk_free bA
    unfold dcs at cA4
    have HG4 := hid kg4
    have HO4 := hid hob4
    have HW4 := hid hown4
    have BA4 := hid bA
    have BB4 := hid bB
    clear hown4 hg4 hob4 hnil4 kg4 bA bB bC bD bE
    refine hKQ.out _ _ ⟨cA4, cC3, cD3, cE3⟩ (fun hHeld4 => ?_)
    clear hKQ KQ
    (refine wpAnyH_take (i := 11) (oi := _) (v := ?_) (by (simp only [List.getElem?_toArray, List.getElem?_cons_succ, List.getElem?_cons_zero]); rfl) (by kernel_rfl) (by kernel_rfl) (by kernel_rfl) (by exact fun _ _ _ h => h) (Or.inl ⟨by rfl, ?_⟩) (by assumption) ?_; rotate_left; focus ((intro w hSw; (try dsimp only at hSw); go_simp) <;> with_reducible rfl); (try simp only [Act.put, List.getElem_toArray, List.getElem_cons_succ, List.getElem_cons_zero, List.setIfInBounds_toArray, List.set_cons_zero, List.set_cons_succ]))
    (refine wpAnyH_take (i := 12) (oi := _) (v := ?_) (by (simp only [List.getElem?_toArray, List.getElem?_cons_succ, List.getElem?_cons_zero]); rfl) (by kernel_rfl) (by kernel_rfl) (by kernel_rfl) (by exact fun _ _ _ h => h) (Or.inl ⟨by rfl, ?_⟩) (by assumption) ?_; rotate_left; focus ((intro w hSw; (try dsimp only at hSw); go_simp) <;> with_reducible rfl); (try simp only [Act.put, List.getElem_toArray, List.getElem_cons_succ, List.getElem_cons_zero, List.setIfInBounds_toArray, List.set_cons_zero, List.set_cons_succ]))
    (try simp only [Act.put, List.setIfInBounds_toArray, List.set_cons_zero, List.set_cons_succ])
    refine wpAnyH_done (by kernel_rfl) ?_ _
    unfold RegionLast.LastQ
    dsimp only
    all_goals (go_wp2_with fail)
    all_goals (
      go_ret
      unfold AppPost
      rw [if_neg (Int.not_lt.2 hg.out)]
      refine ⟨rfl, ?_⟩
      have hu2 := HU.out
      have hsz2 : w.heap.size ≤ w2.heap.size := hK2.out.size
      have hsz3 : w2.heap.size ≤ w3.heap.size := HK.out.size
      have hBA : ∀ z, (Value.slice BA L bc).ownBlock = some z → z < w.heap.size := fun z hz => H.out.lt z (by rw [HROLE.out z hz]; simp)
      have hkp : Kp (fun z => z ≠ p ∧ z ≠ f ∧ some z ≠ (Value.slice BA L bc).ownBlock) w (w4.setCell ⟨p, 3, none⟩ (.slice A4 (L + 1) e4)) :=
        (((((hK2.out.mono fun z _ hz => ⟨hz.1, hz.2.1⟩).drew.trans HK.out.all).alloc _).trans (HG4.out.mono fun z _ hz => hz.2.2)).setOut (by simp) _)
      have hdv : (w4.setCell ⟨p, 3, none⟩ (.slice A4 (L + 1) e4)).ownsRow 0 5 1 (.slice Av lb cv) lb (u8s b) := by
        refine own_kept (World.ownsRow.mono HV.out (Nat.zero_le _)) ((((Kp.refl (fun z => z ≠ p ∧ some z ≠ (Value.slice BA L bc).ownBlock) w3).alloc (.cells #[.pointer (some ⟨f, 0, none⟩), .slice Av lb cv] 133)).trans (HG4.out.mono fun z _ hz => hz.2)).setOut (by simp) _) fun z hz => ?_
        have h1 : w2.heap.size ≤ z := (HV.out.lt z hz).1
        exact ⟨(by have := blk_lt H.out.cell; omega), (fun e => by have := hBA z e.symm; omega)⟩
      have hro4 := own_kept HW4.out (w' := w4.setCell ⟨p, 3, none⟩ (.slice A4 (L + 1) e4)) ((Kp.refl (fun z => z ≠ p) w4).setOut (by simp) _) (fun z hz e => by
        rcases HO4.out with h1 | h1
        · rw [h1] at hz; exact (hne z hz).1 e
        · rw [h1] at hz; injection hz with hz; have := blk_lt H.out.cell; simp at hz; omega)
      refine H.out.pushed (sv := .slice SA ls sc) (dv := .slice Av lb cv) (N := w3.heap.size + 1) (v4 := .slice A4 (L + 1) e4) HS.out (by rw [HLS.out]; exact q2) (by rw [HF.out]; exact q3) ?_ ?_ ?_ ?_ (by omega) (by rw [HL.out]; exact hdv) ?_ ?_ ?_
      · have := blk_set BA4.out 3 (.slice A4 (L + 1) e4)
        rw [this]
        congr 2
        rw [show ((usedOf D.F (D.B ++ [(n, b)]) : Nat) : Int) = (u : Int) + ((needs (ls + mo + lb) : Int) - (needs (ls + mo) : Int)) from by omega]
        rfl
      · rw [HF.out, HMO.out, HL.out]
        exact blk_far BB4.out hpf _
      · rw [HF.out, HLL.out]
        exact hro4
      · rw [HLL.out]
        rcases HO4.out with h1 | h1
        · exact .inl h1
        · exact .inr (by rw [h1]; simp)
      · intro z hz
        have h1 := HV.out.lt z hz
        have h2 : w2.heap.size ≤ z := h1.1
        refine ⟨by omega, fun e => ?_⟩
        rcases HO4.out with h3 | h3
        · rw [h3] at e; have := hBA z e; omega
        · rw [h3] at e; injection e with e; simp at e; omega
      · rw [HF.out, HLL.out]
        exact hkp
      · omega)
end Go.Proofs.YtbkhademplgicaaGreatDoor

namespace Go.Proofs.YtbkhademplgicaaGreatDoor
open Go.RowKit
set_option linter.unusedVariables false
/-- What Append answers, and the state behind it. -/
def appErr (D : DS) (n : Nm) (b : By) : Int :=
  if D.off then 9 else match aget D.F n with
  | none => 4
  | some s => if D.fit then (if D.blocks - (usedOf D.F D.B : Int) < (grow D n s b.length : Int) then 7 else 0) else 9
def appD (D : DS) (n : Nm) (b : By) : DS :=
  if D.off then D else match aget D.F n with
  | none => D
  | some s => if D.fit then (if D.blocks - (usedOf D.F D.B : Int) < (grow D n s b.length : Int) then D.begun else D.begun.push n b) else D.begun
/-- An operation that answers v and leaves D'. -/
def Op1 (w : World) (ro : Nat → Role) (p : Nat) (v : Int) (D' : DS) (e : Ending) (w' : World) : Prop := e = .returned (.int .i64 v) ∧ Nx w ro p D' w'
/-- what is asked of the counters -/
structure DS.Ok (D : DS) : Prop where
  o0 : 0 ≤ D.ops
  o1 : D.ops ≤ 4611686018427387904
  f1 : D.fails ≤ 9223372036854775807
  bl : D.B.length ≤ 1073741824
theorem begun_fit {D : DS} (h : D.fit = true) : D.begun.F = D.F ∧ D.begun.B = D.B ∧ D.begun.blocks = D.blocks ∧ D.begun.off = D.off := by
  have h1 : D.fails ≠ 1 := by simpa [DS.fit] using h
  unfold DS.begun
  rw [if_neg h1]
  split <;> exact ⟨rfl, rfl, rfl, rfl⟩
theorem aget_mem {κ β : Type} [DecidableEq κ] {F : List (κ × β)} {n : κ} {s : β} (h : aget F n = some s) : (n, s) ∈ F := by
  unfold aget at h
  cases hf : F.find? (fun x => x.1 == n) with
  | none => rw [hf] at h; cases h
  | some x =>
    rw [hf] at h
    have h1 := List.mem_of_find?_eq_some hf
    have h2 := List.find?_some hf
    simp only [Option.map_some, Option.some.injEq] at h
    have : x.1 = n := by simpa using h2
    rw [← this, ← h]
    exact h1

theorem aget_keys {κ β γ : Type} [DecidableEq κ] (F : List (κ × β)) (g : κ → γ) (n : κ) : aget (F.map fun x => (x.1, g x.1)) n = (aget F n).map fun _ => g n := by
  induction F with
  | nil => rfl
  | cons x l ih =>
    unfold aget at ih ⊢
    simp only [List.map_cons, List.find?_cons]
    by_cases h : x.1 = n
    · simp [h]
    · have : (x.1 == n) = false := by simpa using h
      rw [this]
      exact ih
theorem AppPost.pre {w w1 : World} {ro : Nat → Role} {p : Nat} {D : DS} {n : Nm} {s b : By} {e : Ending} {w' : World} (k : Kp (fun z => ro z = .none) w w1) (h : AppPost w1 ro p D n s b e w') : AppPost w ro p D n s b e w' := by
  unfold AppPost at h ⊢
  split at h
  · rename_i hc
    rw [if_pos hc]
    exact ⟨h.1, Nx.trans ⟨ro, fun _ _ h => h, k, h.2⟩⟩
  · rename_i hc
    rw [if_neg hc]
    exact ⟨h.1, Nx.trans ⟨ro, fun _ _ h => h, k, h.2⟩⟩

theorem en39 : Enters Tryz.prog 100 := enters_of Tryz.func100 (by kernel_rfl) rfl
theorem appPost_num {w : World} {ro : Nat → Role} {p : Nat} {D : DS} {n : Nm} {s b : By} {e : Ending} {w' : World} (h : AppPost w ro p D n s b e w') : ∃ n, e = .returned (.int .i64 n) := by
  unfold AppPost at h
  split at h <;> exact ⟨_, h.1⟩

set_option maxRecDepth 100000 in
set_option maxHeartbeats 1000000 in
theorem append_any (p : Nat) (ro : Nat → Role) (D : DS) (hok : D.Ok) (n : Nm) (b : By) (A : Option Addr) (c : Nat) (w : World) (h : Dk w p ro D)
    (hb : Foot (fun k => ro k = .none) (Sl A b.length c 1 (u8s b)) w) (hbl : b.length ≤ 549755813888) :
    Calls Tryz.prog 58 #[.pointer (some ⟨p, 0, none⟩), .string n, .slice A b.length c] w (Op1 w ro p (appErr D n b) (appD D n b)) := by
  have HD := hid h
  obtain ⟨m, fp, bv, BV, h⟩ := h
  have H := hid h
  have HB := hid hb
  have hp := blk_lt h.cell
  have b1 := h.cell
  have hmp : m < w.heap.size := h.lt m (by rw [h.rm]; decide)
  have hnl : ro w.heap.size = .none := by
    by_cases e : ro w.heap.size = .none
    · exact e
    · exact absurd (h.lt _ e) (Nat.lt_irrefl _)
  obtain ⟨bo, hbo⟩ : ∃ x, D.off = x := ⟨_, rfl⟩
  have HBO := hid hbo
  clear h hb hbo
  cases bo
  · obtain ⟨y, hy⟩ : ∃ y, aget D.F n = y := ⟨_, rfl⟩
    have HY := hid hy
    have hmap : (aget (D.F.map fun x => (x.1, Value.pointer (some ⟨fp x.1, 0, none⟩))) n) = y.map fun _ => Value.pointer (some ⟨fp n, 0, none⟩) := by
      rw [aget_keys D.F (fun x => Value.pointer (some ⟨fp x, 0, none⟩)), hy]
    have HMAP := hid hmap
    have hz : ∀ w : World, (zeroValue 105).run Tryz.prog w = .ok (.pointer none) w := fun w => by kernel_rfl
    clear hy hmap
    have c1 := blk_cell b1
    have B1 := hid b1
    unfold dcs at c1
    have hmf : ∀ (fn : Fn) (first cap : Array Value) (w : World), (Instr.makeFunc fn first cap).run Tryz.prog w = .ok (.func fn first cap) w := fun _ _ _ _ => rfl
    clear b1
    cases y with
    | none =>
      have hv : (aget (D.F.map fun x => (x.1, Value.pointer (some ⟨fp x.1, 0, none⟩))) n).getD (.pointer none) = .pointer none := by rw [HMAP.out]; rfl
      have HV := hid hv
      clear hv
      go_enter Tryz.func58, Tryz.ntmps58
      go_wp2_with fail
      refine (may_any p m D _ bv _ (by exact blk_alloc (blk_alloc B1.out _) _)).mono ?_
      rintro e w1 ⟨rfl, rfl⟩
      rw [show mayErr D = 0 from by rw [mayErr, HBO.out]; rfl]
      go_wp2_with (at_lookup; go_loud (refine wpList_lookup_val strKey Tryz.underlying88 (H.out.map.all ((Kp.al _ _).alloc _)) n (hz _) HV.out rfl _ _ rfl rfl rfl ?_))
      go_ret
      exact ⟨by rw [appErr, HBO.out, HY.out]; rfl, by rw [appD, HBO.out, HY.out]; exact HD.out.nx ((((Kp.al _ _)).alloc _).alloc _)⟩
    | some s =>
      have hv : (aget (D.F.map fun x => (x.1, Value.pointer (some ⟨fp x.1, 0, none⟩))) n).getD (.pointer none) = .pointer (some ⟨fp n, 0, none⟩) := by rw [HMAP.out]; rfl
      have HV := hid hv
      clear hv
      go_enter Tryz.func58, Tryz.ntmps58
      go_wp2_with fail
      refine (may_any p m D _ bv _ (by exact blk_alloc (blk_alloc B1.out _) _)).mono ?_
      rintro e w1 ⟨rfl, rfl⟩
      rw [show mayErr D = 0 from by rw [mayErr, HBO.out]; rfl]
      go_wp2_with (at_lookup; go_loud (refine wpList_lookup_val strKey Tryz.underlying88 (H.out.map.all ((Kp.al _ _).alloc _)) n (hz _) HV.out rfl _ _ rfl rfl rfl ?_))
      have hk3 : Kp All w (((w.alloc (.cells #[.pointer (some ⟨p, 0, none⟩)] 51)).alloc (.cells #[.slice A b.length c] 25)).alloc (.cells #[.pointer (some ⟨fp n, 0, none⟩)] 105)) := ((Kp.al _ _).alloc _).alloc _
      have H3 := H.out.kept hk3 (fun _ _ => trivial)
      have hrn : ∀ z, w.heap.size ≤ z → ro z = .none := fun z hz => by
        by_cases e : ro z = .none
        · exact e
        · exact absurd (H.out.lt z e) (by omega)
      have hc : D.fit = true → ∀ w1, Dk0 w1 p ro D.begun m fp bv BV → Kp (fun b => b ≠ p) (((w.alloc (.cells #[.pointer (some ⟨p, 0, none⟩)] 51)).alloc (.cells #[.slice A b.length c] 25)).alloc (.cells #[.pointer (some ⟨fp n, 0, none⟩)] 105)) w1 → Calls Tryz.prog 100 #[.pointer (some ⟨w.heap.size + 1 + 1, 0, none⟩), .pointer (some ⟨w.heap.size + 1, 0, none⟩), .pointer (some ⟨w.heap.size, 0, none⟩)] w1 (AppPost w ro p D.begun n s b) := by
        intro hfit w1 h1 k1
        obtain ⟨eF, eB, _⟩ := begun_fit hfit
        have kk : Kp (fun z => ro z = .none) w w1 := hk3.all.trans (k1.mono fun z _ hz => ndisk H.out.rp z hz)
        have x1 := blk_new w (.cells #[.pointer (some ⟨p, 0, none⟩)] 51)
        have x2 := blk_new (w.alloc (.cells #[.pointer (some ⟨p, 0, none⟩)] 51)) (.cells #[.slice A b.length c] 25)
        have x3 := blk_new ((w.alloc (.cells #[.pointer (some ⟨p, 0, none⟩)] 51)).alloc (.cells #[.slice A b.length c] 25)) (.cells #[.pointer (some ⟨fp n, 0, none⟩)] 105)
        rw [World.size_alloc] at x2
        rw [World.size_alloc, World.size_alloc] at x3
        refine (append1_any p ro D.begun m fp bv BV n s b A c _ _ _ w1 h1 (by rw [eF]; exact aget_mem HY.out) (HB.out.step kk) hbl (by rw [eB]; exact hok.bl) (k1.heap x3 (by omega)) (k1.heap (blk_alloc x2 _) (by omega)) (k1.heap (blk_alloc (blk_alloc x1 _) _) (by omega)) (hrn _ (by omega)) (hrn _ (by omega)) (hrn _ (by omega))).mono ?_
        intro e w' h
        exact h.pre kk
      refine (does_any p ro D hok.o0 hok.o1 hok.f1 _ m fp bv BV H3 100 _ en39 (AppPost w ro p D.begun n s b) (fun _ _ h => appPost_num h) hc).mono ?_
      rintro e w1 ⟨hn1, hn2⟩
      cases hfit : D.fit with
      | false =>
        obtain ⟨rfl, hnx⟩ := hn1 hfit
        have HN := hid hnx
        have HFT := hid hfit
        clear hn1 hn2 hnx hfit hc H3
        go_wp2_with fail
        go_ret
        refine ⟨?_, ?_⟩
        · rw [appErr, HBO.out, HY.out]; simp [HFT.out]
        · rw [appD, HBO.out, HY.out]
          simp only [HFT.out, Bool.false_eq_true, if_false]
          exact Nx.pre hk3 HN.out
      | true =>
        have hp2 := hn2 hfit
        obtain ⟨v, rfl⟩ := appPost_num hp2
        obtain ⟨eF, eB, eb, _⟩ := begun_fit hfit
        have HP2 := hid hp2
        have HFT := hid hfit
        have HEF := hid eF; have HEB := hid eB; have HEb := hid eb
        clear hn1 hn2 hp2 hfit hc H3 eF eB eb
        go_wp2_with fail
        go_ret
        have := HP2.out
        unfold AppPost grow at this
        rw [HEF.out, HEB.out, HEb.out] at this
        unfold Op1
        rw [appErr, appD, HBO.out, HY.out]
        simp only [HFT.out, if_true, Bool.false_eq_true, if_false]
        unfold grow
        split at this <;> rename_i hcond
        · rw [if_pos hcond, if_pos hcond]; exact this
        · rw [if_neg hcond, if_neg hcond]; exact this
  · go_enter Tryz.func58, Tryz.ntmps58
    go_wp2_with fail
    refine (may_any p m D _ bv _ (by exact blk_alloc (blk_alloc b1 _) _)).mono ?_
    rintro e w1 ⟨rfl, rfl⟩
    rw [show mayErr D = 9 from by rw [mayErr, HBO.out]; rfl]
    go_wp2_with fail
    go_ret
    exact ⟨by rw [appErr, HBO.out]; rfl, by rw [appD, HBO.out]; exact HD.out.nx (((Kp.al _ _)).alloc _)⟩
end Go.Proofs.YtbkhademplgicaaGreatDoor

namespace Go.Proofs.YtbkhademplgicaaGreatDoor
open Go.RowKit
set_option linter.unusedVariables false
theorem Op1.num {w : World} {ro : Nat → Role} {p : Nat} {v : Int} {D' : DS} {e : Ending} {w' : World} (h : Op1 w ro p v D' e w') : ∃ n, e = .returned (.int .i64 n) := ⟨_, h.1⟩
theorem Op1.pre {w w1 : World} {ro : Nat → Role} {p : Nat} {v : Int} {D' : DS} {e : Ending} {w' : World} (k : Kp (fun z => ro z = .none) w w1) (h : Op1 w1 ro p v D' e w') : Op1 w ro p v D' e w' := ⟨h.1, Nx.trans ⟨ro, fun _ _ h => h, k, h.2⟩⟩

theorem Nx.kp {w w' : World} {ro : Nat → Role} {p : Nat} {D' : DS} (h : Nx w ro p D' w') : Kp (fun b => ro b = .none) w w' := by
  obtain ⟨_, _, _, h⟩ := h
  exact h

set_option maxRecDepth 100000 in
theorem sync1_any (p : Nat) (ro : Nat → Role) (D : DS) (hoff : D.off = false) (db : Nat) (w : World) (h : Dk w p ro D) (b5 : w.heap[db]? = some (.cells #[.pointer (some ⟨p, 0, none⟩)] 51 (0, 0))) (hrdb : ro db = .none) :
    Calls Tryz.prog 104 #[.pointer (some ⟨db, 0, none⟩)] w (Op1 w ro p 0 (D.settle (pend D.B))) := by
  have H := hid h
  have c5 := blk_cell b5
  have B5 := hid b5
  have hple : pend D.B ≤ 9223372036854775807 := by obtain ⟨m, fp, bv, BV, h0⟩ := h; have := h0.pend_le; omega
  have HO := hid hoff
  clear h b5 hoff
  go_enter Tryz.func104, Tryz.ntmps104
  go_wp2_with fail
  have hpd : (if D.off then 0 else pend D.B) = pend D.B := by rw [HO.out]; rfl
  have HPD := hid hpd
  clear hpd
  go_region_held3 (fun w' => ∀ i, w'.cell? ⟨db, i, none⟩ = (#[.pointer (some ⟨p, 0, none⟩)] : Array Value)[i]?)
    (first | exact c5 | exact c6 | exact c7)
    ((first | (go_at_call 105; refine (pend_any p ro D _ (H.out.all ((Kp.refl All w).drew))).mono ?_; rintro e w1 ⟨rfl, hk⟩; rw [HPD.out]; have c6 := blk_cell (hk.heap (by exact B5.out) trivial); have hd1 := H.out.all ((Kp.refl All w).drew.trans hk); have HD1 := hid hd1; have HK := hid hk; clear hk hd1) | (go_at_call 67; refine (settle_any p ro D (pend D.B) hple w1 HD1.out).mono ?_; rintro e w2 ⟨rfl, hn⟩; have c7 := blk_cell (hn.kp.heap ((HK.out).heap (by exact B5.out) trivial) hrdb); have HN := hid hn; clear hn)))
  go_wp2_with fail
  go_ret
  exact ⟨rfl, Nx.pre ((Kp.refl All w).drew.trans HK.out) HN.out⟩

def syncErr (D : DS) : Int := if D.off then 9 else if D.fit then 0 else 9
def syncD (D : DS) : DS := if D.off then D else if D.fit then D.begun.settle (pend D.B) else D.begun
theorem en37 : Enters Tryz.prog 104 := enters_of Tryz.func104 (by kernel_rfl) rfl
theorem Dk0.rnew {w : World} {p : Nat} {ro : Nat → Role} {D : DS} {m : Nat} {fp : Nm → Nat} {bv : Value} {BV : List (Nm × By × Value)} (h : Dk0 w p ro D m fp bv BV) : ∀ z, w.heap.size ≤ z → ro z = .none := fun z hz => by
  by_cases e : ro z = .none
  · exact e
  · exact absurd (h.lt z e) (by omega)

set_option maxRecDepth 100000 in
theorem sync_any (p : Nat) (ro : Nat → Role) (D : DS) (hok : D.Ok) (w : World) (h : Dk w p ro D) :
    Calls Tryz.prog 59 #[.pointer (some ⟨p, 0, none⟩)] w (Op1 w ro p (syncErr D) (syncD D)) := by
  have HD := hid h
  obtain ⟨m, fp, bv, BV, h⟩ := h
  have H := hid h
  have hp := blk_lt h.cell
  have b1 := h.cell
  obtain ⟨bo, hbo⟩ : ∃ x, D.off = x := ⟨_, rfl⟩
  have HBO := hid hbo
  have hmf : ∀ (fn : Fn) (first cap : Array Value) (w : World), (Instr.makeFunc fn first cap).run Tryz.prog w = .ok (.func fn first cap) w := fun _ _ _ _ => rfl
  clear h hbo
  cases bo
  · have B1 := hid b1
    clear b1
    go_enter Tryz.func59, Tryz.ntmps59
    go_wp2_with fail
    refine (may_any p m D _ bv _ (by exact blk_alloc B1.out _)).mono ?_
    rintro e w1 ⟨rfl, rfl⟩
    rw [show mayErr D = 0 from by rw [mayErr, HBO.out]; rfl]
    go_wp2_with fail
    have hk3 : Kp All w (w.alloc (.cells #[.pointer (some ⟨p, 0, none⟩)] 51)) := Kp.al _ _
    have H3 := H.out.kept hk3 (fun _ _ => trivial)
    have hc : D.fit = true → ∀ w1, Dk0 w1 p ro D.begun m fp bv BV → Kp (fun b => b ≠ p) (w.alloc (.cells #[.pointer (some ⟨p, 0, none⟩)] 51)) w1 → Calls Tryz.prog 104 #[.pointer (some ⟨w.heap.size, 0, none⟩)] w1 (Op1 w ro p 0 (D.begun.settle (pend D.B))) := by
      intro hfit w1 h1 k1
      obtain ⟨eF, eB, eb, eo⟩ := begun_fit hfit
      have kk : Kp (fun z => ro z = .none) w w1 := hk3.all.trans (k1.mono fun z _ hz => ndisk H.out.rp z hz)
      have := (sync1_any p ro D.begun (by rw [eo]; exact HBO.out) w.heap.size w1 ⟨m, fp, bv, BV, h1⟩ (k1.heap (blk_new w _) (by omega)) (H.out.rnew _ (Nat.le_refl _)))
      rw [eB] at this
      exact this.mono fun e w' h => h.pre kk
    refine (does_any p ro D hok.o0 hok.o1 hok.f1 _ m fp bv BV H3 104 _ en37 (Op1 w ro p 0 (D.begun.settle (pend D.B))) (fun _ _ h => h.num) hc).mono ?_
    rintro e w1 ⟨hn1, hn2⟩
    cases hfit : D.fit with
    | false =>
      obtain ⟨rfl, hnx⟩ := hn1 hfit
      have HN := hid hnx
      have HFT := hid hfit
      clear hn1 hn2 hnx hfit hc H3
      go_wp2_with fail
      go_ret
      refine ⟨?_, ?_⟩
      · rw [syncErr, HBO.out]; simp [HFT.out]
      · rw [syncD, HBO.out]
        simp only [HFT.out, Bool.false_eq_true, if_false]
        exact Nx.pre hk3 HN.out
    | true =>
      obtain ⟨rfl, hp2⟩ := hn2 hfit
      have HP2 := hid hp2
      have HFT := hid hfit
      clear hn1 hn2 hp2 hfit hc H3
      go_wp2_with fail
      go_ret
      refine ⟨?_, ?_⟩
      · rw [syncErr, HBO.out]; simp [HFT.out]
      · rw [syncD, HBO.out]
        simp only [HFT.out, if_true, Bool.false_eq_true, if_false]
        exact HP2.out
  · go_enter Tryz.func59, Tryz.ntmps59
    go_wp2_with fail
    refine (may_any p m D _ bv _ (by exact blk_alloc b1 _)).mono ?_
    rintro e w1 ⟨rfl, rfl⟩
    rw [show mayErr D = 9 from by rw [mayErr, HBO.out]; rfl]
    go_wp2_with fail
    go_ret
    exact ⟨by rw [syncErr, HBO.out]; rfl, by rw [syncD, HBO.out]; exact HD.out.nx (Kp.al _ _)⟩

end Go.Proofs.YtbkhademplgicaaGreatDoor

namespace Go.Proofs.YtbkhademplgicaaGreatDoor
open Go.RowKit
set_option linter.unusedVariables false
theorem moreOf_none {B : List (Nm × By)} {n : Nm} (h : ∀ x ∈ B, x.1 ≠ n) : moreOf B n = 0 := by
  induction B with
  | nil => rfl
  | cons x l ih =>
    rw [moreOf, if_neg (h x (List.mem_cons_self ..)), ih fun y hy => h y (List.mem_cons_of_mem _ hy)]
theorem aget_none {κ β : Type} [DecidableEq κ] {F : List (κ × β)} {n : κ} (h : aget F n = none) : n ∉ F.map (·.1) := by
  intro hm
  obtain ⟨x, hx, rfl⟩ := List.mem_map.1 hm
  unfold aget at h
  rw [Option.map_eq_none_iff, List.find?_eq_none] at h
  exact absurd (h x hx) (by simp)
def DS.add (D : DS) (n : Nm) : DS := { D with F := D.F ++ [(n, [])] }
theorem Dk0.added {w wF : World} {p : Nat} {ro : Nat → Role} {D : DS} {m : Nat} {fp : Nm → Nat} {bv : Value} {BV : List (Nm × By × Value)} (h : Dk0 w p ro D m fp bv BV) {n : Nm} {N : Nat} (hn : aget D.F n = none) (hN : w.heap.size ≤ N)
    (hcell : wF.heap[p]? = some (.cells (dcs D ((usedOf D.F D.B : Int) + 1) m bv) 91 (0, 0))) (hmap : SMap wF m (aset (D.F.map fun x => (x.1, Value.pointer (some ⟨fp x.1, 0, none⟩))) n (.pointer (some ⟨N, 0, none⟩))))
    (hfile : wF.heap[N]? = some (.cells #[.slice none 0 0, .int .i64 0] 129 (0, 0))) (kp : Kp (fun z => z ≠ p ∧ z ≠ m) w wF) (hus : (usedOf D.F D.B : Int) < D.blocks) : Nx w ro p (D.add n) wF := by
  have hk := aget_none hn
  have hb : ∀ x ∈ D.B, x.1 ≠ n := fun x hx e => hk (by rw [← e]; exact h.names x hx)
  have hNr : ro N = .none := h.rnew N hN
  have hold : ∀ z, ro z ≠ .none → z ≠ N := fun z hz e => hz (e ▸ hNr)
  have hkeep : ∀ z, ro z ≠ .none → ro z ≠ .disk → ro z ≠ .map → z ≠ p ∧ z ≠ m := fun z _ h2 h3 => ⟨(fun e => h2 (e ▸ h.rp)), (fun e => h3 (e ▸ h.rm))⟩
  have hfF : ∀ x ∈ D.F, (if x.1 = n then N else fp x.1) = fp x.1 := fun x hx => if_neg fun e => hk (by rw [← e]; exact List.mem_map.2 ⟨x, hx, rfl⟩)
  have hus1 : usedOf (D.F ++ [(n, [])]) D.B = usedOf D.F D.B + 1 := by
    simp only [usedOf, List.map_append, List.map_cons, List.map_nil, List.sum_append, List.sum_cons, List.sum_nil, List.length_nil, moreOf_none hb]
    rfl
  refine ⟨fun z => if z = N then .file else ro z, ⟨m, fun k => if k = n then N else fp k, bv, BV, ?_, ?_, ⟨?_, ?_, ?_⟩, ⟨h.bf.eq, ?_, ?_, ?_, h.bf.one⟩, ?_, ?_, ?_, ?_, h.bl, h.kw, ?_⟩, ?_, ?_⟩
  · rw [hcell]
    show some (Obj.cells (dcs D ((usedOf D.F D.B : Int) + 1) m bv) _ _) = some (Obj.cells (dcs (D.add n) (usedOf (D.F ++ [(n, [])]) D.B : Nat) m bv) _ _)
    rw [hus1]
    rfl
  · have e : (D.add n).F.map (fun x => (x.1, Value.pointer (some ⟨if x.1 = n then N else fp x.1, 0, none⟩))) = aset (D.F.map fun x => (x.1, Value.pointer (some ⟨fp x.1, 0, none⟩))) n (.pointer (some ⟨N, 0, none⟩)) := by
      show (D.F ++ [(n, [])]).map _ = _
      unfold aset
      rw [aget_keys D.F (fun x => Value.pointer (some ⟨fp x, 0, none⟩)), hn]
      simp only [Option.map_none, Option.isSome_none, Bool.false_eq_true, if_false, List.map_append, List.map_cons, List.map_nil, if_true]
      congr 1
      apply List.map_congr_left
      intro x hx
      rw [hfF x hx]
    rw [e]
    exact hmap
  · intro x hx
    rcases List.mem_append.1 hx with hx | hx
    · obtain ⟨v, h1, h2, h3⟩ := h.fl.lie x hx
      have hr := h.fl.role x hx
      simp only [hfF x hx]
      refine ⟨v, kp.heap h1 (hkeep _ (by rw [hr]; decide) (by rw [hr]; decide) (by rw [hr]; decide)), own_kept h2 kp fun b hb => ?_, fun b hb => ?_⟩
      · have := h3 b hb
        exact hkeep b (by rw [this]; simp) (by rw [this]; simp) (by rw [this]; simp)
      · have := h3 b hb
        rw [if_neg (hold b (by rw [this]; simp))]
        exact this
    · simp only [List.mem_singleton] at hx
      subst hx
      simp only [if_true]
      refine ⟨.slice none 0 0, ?_, World.ownsRow_nil _ _ _ _, by simp [Value.ownBlock]⟩
      show _ = some (Obj.cells #[_, .int .i64 (moreOf D.B n : Nat)] _ _)
      rw [moreOf_none hb]
      exact hfile
  · intro x hx
    rcases List.mem_append.1 hx with hx | hx
    · have hr := h.fl.role x hx
      simp only [hfF x hx]
      rw [if_neg (hold _ (by rw [hr]; decide))]
      exact hr
    · simp only [List.mem_singleton] at hx
      subst hx
      simp
  · intro x hx y hy e
    have hfN : ∀ x ∈ D.F, fp x.1 ≠ N := fun x hx => hold _ (by rw [h.fl.role x hx]; decide)
    rcases List.mem_append.1 hx with hx | hx <;> rcases List.mem_append.1 hy with hy | hy
    · simp only [hfF x hx, hfF y hy] at e
      exact h.fl.inj x hx y hy e
    · simp only [List.mem_singleton] at hy
      subst hy
      simp only [hfF x hx, if_true] at e
      exact absurd e (hfN x hx)
    · simp only [List.mem_singleton] at hx
      subst hx
      simp only [hfF y hy, if_true] at e
      exact absurd e.symm (hfN y hy)
    · simp only [List.mem_singleton] at hx hy
      rw [hx, hy]
  · have e : wcs (fun k => if k = n then N else fp k) BV = wcs fp BV := by
      unfold wcs
      have : ∀ x ∈ BV, x.1 ≠ n := fun (x : Nm × By × Value) hx => hb (x.1, x.2.1) (by rw [h.bf.eq]; exact List.mem_map.2 ⟨x, hx, rfl⟩)
      clear hmap hcell
      generalize BV = L at this
      induction L with
      | nil => rfl
      | cons y l ih =>
        simp only [List.flatMap_cons]
        rw [ih (fun x hx => this x (List.mem_cons_of_mem _ hx)), if_neg (this y (List.mem_cons_self ..))]
    rw [e]
    refine own_kept h.bf.row kp fun b hb => ?_
    have := h.bf.role b hb
    exact hkeep b (by rw [this]; simp) (by rw [this]; simp) (by rw [this]; simp)
  · intro b hb
    have := h.bf.role b hb
    rw [if_neg (hold b (by rw [this]; simp))]
    exact this
  · intro x hx
    obtain ⟨h1, h2⟩ := h.bf.data x hx
    refine ⟨own_kept h1 kp fun b hb => ?_, fun b hb => ?_⟩
    · have := h2 b hb
      exact hkeep b (by rw [this]; simp) (by rw [this]; simp) (by rw [this]; simp)
    · have := h2 b hb
      rw [if_neg (hold b (by rw [this]; simp))]
      exact this
  · rw [if_neg (hold p (by rw [h.rp]; simp))]; exact h.rp
  · rw [if_neg (hold m (by rw [h.rm]; simp))]; exact h.rm
  · intro z hz
    split at hz
    · rename_i e; rw [e]; exact blk_lt hfile
    · exact Nat.lt_of_lt_of_le (h.lt z hz) kp.size
  · intro x hx
    have := h.names x hx
    show x.1 ∈ (D.F ++ [(n, [])] : List (Nm × By)).map (fun y => y.1)
    simp only [List.map_append]
    exact List.mem_append_left _ this
  · show (usedOf (D.F ++ [(n, [])]) D.B : Int) ≤ D.blocks
    rw [hus1]
    omega
  · intro z hz hzn
    show (if z = N then Role.file else ro z) = .none
    rw [if_neg (by omega)]
    exact hzn
  · exact kp.mono (T := fun z => ro z = .none) fun z _ hz => ⟨(fun e => by rw [e, h.rp] at hz; cases hz), (fun e => by rw [e, h.rm] at hz; cases hz)⟩

def createErr1 (D : DS) : Int := if D.blocks ≤ (usedOf D.F D.B : Int) then 7 else 0
def createD1 (D : DS) (n : Nm) : DS := if D.blocks ≤ (usedOf D.F D.B : Int) then D else D.add n

set_option maxRecDepth 100000 in
set_option maxHeartbeats 1000000 in
theorem create1_new (p : Nat) (ro : Nat → Role) (D : DS) (n : Nm) (db nb : Nat) (w : World) (h : Dk w p ro D) (hn : aget D.F n = none)
    (b4 : w.heap[nb]? = some (.cells #[.string n] 9 (0, 0))) (b5 : w.heap[db]? = some (.cells #[.pointer (some ⟨p, 0, none⟩)] 51 (0, 0))) (r4 : ro nb = .none) (r5 : ro db = .none) :
    Calls Tryz.prog 98 #[.pointer (some ⟨db, 0, none⟩), .pointer (some ⟨nb, 0, none⟩)] w (Op1 w ro p (createErr1 D) (createD1 D n)) := by
  obtain ⟨m, fp, bv, BV, h⟩ := h
  have H := hid h
  have HN := hid hn
  have b1 := h.cell
  have hbl := h.us
  have hbl2 := h.bl
  have hmm : ro m = .map := h.rm
  have hpm : p ≠ m := fun e => by have := h.rp; rw [e, h.rm] at this; cases this
  have n4p : nb ≠ p := ndisk h.rp nb r4
  have n5p : db ≠ p := ndisk h.rp db r5
  have n4m : nb ≠ m := fun e => by rw [e, h.rm] at r4; cases r4
  have n5m : db ≠ m := fun e => by rw [e, h.rm] at r5; cases r5
  have hp : p < w.heap.size := blk_lt b1
  have hm : m < w.heap.size := h.lt m (by rw [h.rm]; decide)
  have hdb : db < w.heap.size := blk_lt b5
  have hnb : nb < w.heap.size := blk_lt b4
  have hv : (aget (D.F.map fun x => (x.1, Value.pointer (some ⟨fp x.1, 0, none⟩))) n).getD (.pointer none) = .pointer none := by rw [aget_keys D.F (fun x => Value.pointer (some ⟨fp x, 0, none⟩)), hn]; rfl
  have hz : ∀ w : World, (zeroValue 105).run Tryz.prog w = .ok (.pointer none) w := fun w => by kernel_rfl
  have hlk := fun k => ((h.map.all ((Kp.refl All w).drewN k)).lookup strKey Tryz.underlying88 n (.pointer none) (hz _)).2
  rw [hv] at hlk
  obtain ⟨u, hu⟩ : ∃ u, usedOf D.F D.B = u := ⟨_, rfl⟩
  have HU := hid hu
  rw [hu] at b1 hbl
  have c1 := blk_cell b1; have c4 := blk_cell b4; have c5 := blk_cell b5
  have f1 := blk_free b1
  have B1 := hid b1; have B4 := hid b4; have B5 := hid b5
  unfold dcs at c1
  clear h hn hv hu b1 b4 b5
  by_cases hr : D.blocks ≤ (u : Int)
  · have hd : decide (D.blocks ≤ (u : Int)) = true := decide_eq_true hr
    have he : Hid (createErr1 D = 7 ∧ createD1 D n = D) := hid (by rw [createErr1, createD1, HU.out, if_pos hr, if_pos hr]; exact ⟨rfl, rfl⟩)
    clear hr
    go_enter Tryz.func98, Tryz.ntmps98
    go_wp2_with fail
    go_quiet (fail)
    generalize nq = qa
    go_wp2_with fail
    go_quiet (fail)
    generalize nq = qb
    go_wp2_with fail
    go_ret
    exact ⟨by rw [he.out.1]; rfl, by rw [he.out.2]; exact Dk.nx ⟨m, fp, bv, BV, H.out⟩ (((Kp.refl All w).drewN _).drewN _)⟩
  · have hd : decide (D.blocks ≤ (u : Int)) = false := decide_eq_false hr
    have he : Hid (createErr1 D = 0 ∧ createD1 D n = D.add n) := hid (by rw [createErr1, createD1, HU.out, if_neg hr, if_neg hr]; exact ⟨rfl, rfl⟩)
    go_enter Tryz.func98, Tryz.ntmps98
    go_wp2_with fail
    go_quiet (fail)
    generalize nq = qa
    go_wp2_with fail
    go_quiet (fail)
    generalize nq = qb
    go_wp2_with fail
    obtain ⟨W, hW⟩ : ∃ W, W = (w.drewN qa).drewN qb := ⟨_, rfl⟩
    rw [← hW]
    have kW : Kp All w W := by rw [hW]; exact ((Kp.refl All w).drewN _).drewN _
    have hWs : W.heap.size = w.heap.size := by rw [hW]; rfl
    clear hW c1 c4 c5 f1 hlk
    have k1 : Kp All w (W.alloc (.cells #[.slice none 0 0, .int .i64 0] 129)).drew := (kW.alloc _).drew
    have b1 := k1.heap B1.out trivial
    have b4 := k1.heap B4.out trivial
    have b5 := k1.heap B5.out trivial
    have b6 : (W.alloc (.cells #[.slice none 0 0, .int .i64 0] 129)).drew.heap[w.heap.size]? = some (.cells #[.slice none 0 0, .int .i64 0] 129) := by rw [← hWs]; exact blk_new W (.cells #[.slice none 0 0, .int .i64 0] 129)
    obtain ⟨w3, hr3, hm3, hk3⟩ := KMap.update2 strKey Tryz.underlying88 (H.out.map.all k1) n (.pointer (some ⟨w.heap.size, 0, none⟩))
    have c1 := blk_cell (kW.heap B1.out trivial)
    have c4 := blk_cell (kW.heap B4.out trivial)
    have c5 := blk_cell (kW.heap B5.out trivial)
    have cA := blk_cell (hk3.heap b1 hpm)
    have cB := blk_cell (hk3.heap b4 n4m)
    have cC := blk_cell (hk3.heap b5 n5m)
    have fA := blk_free (hk3.heap b1 hpm)
    have cA2 := blk_cell b1
    have cB2 := blk_cell b4
    have cC2 := blk_cell b5
    have hWm : w.heap.size ≠ m := by omega
    have B13 := hid (hk3.heap b1 hpm)
    have B63 := hid (hk3.heap b6 hWm)
    have K13 := hid k1; have M3 := hid hm3; have HK3 := hid hk3
    have hpW : p < W.heap.size := by omega
    have hdW : db < W.heap.size := by omega
    have hnW : nb < W.heap.size := by omega
    unfold dcs at c1 cA cA2
    clear b1 b4 b5 b6 k1 hm3 hk3
    go_region_held3 (fun w' => (∀ i, w'.cell? ⟨p, i, none⟩ = (#[.int .i64 D.blocks, .int .i64 u, .map (some m), bv, .bool D.off, .int .i64 D.ops, .int .i64 D.fails, .int .i64 D.keep] : Array Value)[i]?) ∧ (∀ i, w'.cell? ⟨nb, i, none⟩ = (#[.string n] : Array Value)[i]?) ∧ (∀ i, w'.cell? ⟨db, i, none⟩ = (#[.pointer (some ⟨p, 0, none⟩)] : Array Value)[i]?))
      (first | exact ⟨c1, c4, c5⟩ | exact ⟨cA2, cB2, cC2⟩ | exact ⟨cA, cB, cC⟩)
      (fail)
    go_wp2_with fail
    go_ret
    have hcellF := blk_set B13.out 1 (.int .i64 ((u : Int) + 1))
    refine ⟨by rw [he.out.1]; rfl, ?_⟩
    rw [he.out.2]
    have hsz : w.heap.size ≤ w3.heap.size := Nat.le_trans K13.out.size HK3.out.size
    refine H.out.added (N := w.heap.size) HN.out (Nat.le_refl _) ?_ (M3.out.kept (S := fun z => z ≠ p) ((Kp.refl _ _).setOut (by simp) _) (Ne.symm hpm)) (blk_far B63.out (by simp; omega) _) (((K13.out.mono fun _ _ _ => trivial).trans (HK3.out.mono fun z _ hz => hz.2)).setOut (by simp) _) (by rw [HU.out]; omega)
    rw [HU.out]
    exact hcellF
end Go.Proofs.YtbkhademplgicaaGreatDoor

namespace Go.Proofs.YtbkhademplgicaaGreatDoor
open Go.RowKit
set_option linter.unusedVariables false
def okc (n : Int) : Bool := (decide (97 ≤ n) && decide (n ≤ 122)) || (decide (48 ≤ n) && decide (n ≤ 57)) || decide (n = 46) || decide (n = 45)
def chr (s : Nm) (k : Nat) : Int := if h : k < s.size then (s[k].toNat : Int) else 0
def goodB (s : Nm) : Bool := decide (0 < s.size) && decide (s.size ≤ 24) && decide (97 ≤ chr s 0) && decide (chr s 0 ≤ 122) && (List.range s.size).all fun k => okc (chr s k)
theorem chr_at {s : Nm} {k : Nat} (h : k < s.size) : chr s k = (s[k].toNat : Int) := dif_pos h
theorem toList_nil {s : Nm} (h : s.size = 0) : s.toList = [] := by
  rw [ByteArray.toList_eq]
  exact List.eq_nil_of_length_eq_zero (by simpa using h)
theorem toList_ne {s : Nm} (h : 0 < s.size) : s.toList.isEmpty = false := by
  rw [ByteArray.toList_eq]
  cases hl : s.data.toList with
  | nil =>
    have : s.data.toList.length = 0 := by rw [hl]; rfl
    have h2 : s.data.toList.length = s.size := by simp
    omega
  | cons _ _ => rfl
theorem good_false {s : Nm} {k : Nat} (hk : k < s.size) (h : okc (chr s k) = false) : goodB s = false := by
  unfold goodB
  have : (List.range s.size).all (fun k => okc (chr s k)) = false := by
    rw [List.all_eq_false]
    exact ⟨k, List.mem_range.2 hk, by rw [h]; simp⟩
  rw [this, Bool.and_false]
theorem good_true {s : Nm} (h0 : 0 < s.size) (h1 : s.size ≤ 24) (h2 : 97 ≤ chr s 0) (h3 : chr s 0 ≤ 122) (h : ∀ k, k < s.size → okc (chr s k) = true) : goodB s = true := by
  unfold goodB
  have : (List.range s.size).all (fun k => okc (chr s k)) = true := by
    rw [List.all_eq_true]
    exact fun k hk => h k (List.mem_range.1 hk)
  rw [this]
  simp [h0, h1, h2, h3]

theorem okc_a {n : Int} (h1 : 97 ≤ n) (h2 : n ≤ 122) : okc n = true := by unfold okc; simp [h1, h2]
theorem okc_b {n : Int} (h1 : 48 ≤ n) (h2 : n ≤ 57) : okc n = true := by unfold okc; simp [h1, h2]
theorem okc_c {n : Int} (h : (n == 46) = true) : okc n = true := by unfold okc; simp at h; simp [h]
theorem okc_d {n : Int} (h : (n == 45) = true) : okc n = true := by unfold okc; simp at h; simp [h]
theorem okc_n {n : Int} (h1 : n < 97 ∨ 122 < n) (h2 : n < 48 ∨ 57 < n) (h3 : (n == 46) = false) (h4 : (n == 45) = false) : okc n = false := by
  simp at h3 h4
  unfold okc
  simp [h3, h4]
  omega
theorem all_succ {s : Nm} {k : Nat} (h : ∀ j, j < k → okc (chr s j) = true) (hk : okc (chr s k) = true) : ∀ j, j < k + 1 → okc (chr s j) = true := fun j hj => by
  by_cases e : j = k
  · rw [e]; exact hk
  · exact h j (by omega)
theorem chr7 (n : Int) : (97 ≤ n ∧ n ≤ 122 ∧ (n == 46) = false ∧ (n == 45) = false) ∨ (48 ≤ n ∧ n ≤ 57 ∧ (n == 46) = false ∧ (n == 45) = false) ∨ ((n == 46) = true ∧ n < 48 ∧ (n == 45) = false ∧ n < 97) ∨ ((n == 45) = true ∧ n < 48 ∧ (n == 46) = false ∧ n < 97) ∨
    (n < 48 ∧ n < 97 ∧ (n == 46) = false ∧ (n == 45) = false) ∨ (57 < n ∧ n < 97 ∧ (n == 46) = false ∧ (n == 45) = false) ∨ (122 < n ∧ 57 < n ∧ (n == 46) = false ∧ (n == 45) = false) := by
  simp only [beq_iff_eq, beq_eq_false_iff_ne]
  omega
set_option maxRecDepth 100000 in
set_option maxHeartbeats 1000000 in
theorem good_any (s : Nm) (hs : s.size ≤ 9223372036854775806) (w : World) :
    Calls Tryz.prog 20 #[.string s] w fun e w' => e = .returned (.bool (goodB s)) ∧ w = w' := by
  by_cases h0 : s.size = 0
  · have hf : goodB s = false := by unfold goodB; simp [h0]
    have ht := toList_nil h0
    rw [hf]
    go_enter Tryz.func20, Tryz.ntmps20
    go_wp2_with fail
    go_ret
    exact ⟨rfl, rfl⟩
  have hpos : 0 < s.size := by omega
  have hne := toList_ne hpos
  have hnn : ¬ s.toList = [] := fun h => by rw [h] at hne; cases hne
  clear h0
  by_cases h1 : s.size ≤ 24
  case neg =>
    have hf : goodB s = false := by unfold goodB; simp [h1]
    have h24 : (24 : Int) < (s.size : Int) := by omega
    have HF := hid hf
    clear hf h1
    go_enter Tryz.func20, Tryz.ntmps20
    go_wp2_with fail
    go_ret
    exact ⟨by rw [HF.out]; rfl, rfl⟩
  have h24 : (s.size : Int) ≤ 24 := by omega
  have hch := chr_at hpos
  by_cases h2 : 97 ≤ chr s 0
  case neg =>
    have hf : goodB s = false := by unfold goodB; simp [h2]
    rw [hch] at h2
    have h97 : ((s[0].toNat : Nat) : Int) < 97 := by omega
    have HF := hid hf
    clear hf h1 h2 hch
    go_enter Tryz.func20, Tryz.ntmps20
    go_wp2_with fail
    go_ret
    exact ⟨by rw [HF.out]; rfl, rfl⟩
  by_cases h3 : chr s 0 ≤ 122
  case neg =>
    have hf : goodB s = false := by unfold goodB; simp [h3]
    rw [hch] at h2 h3
    have h122 : (122 : Int) < ((s[0].toNat : Nat) : Int) := by omega
    have HF := hid hf
    clear hf h1 h3 hch
    go_enter Tryz.func20, Tryz.ntmps20
    go_wp2_with fail
    go_ret
    exact ⟨by rw [HF.out]; rfl, rfl⟩
  have HT : Hid ((∀ k, k < s.size → okc (chr s k) = true) → goodB s = true) := hid (good_true hpos h1 h2 h3)
  have HFF : Hid (∀ k, k < s.size → okc (chr s k) = false → goodB s = false) := hid fun k hk h => good_false hk h
  rw [hch] at h2 h3
  clear h1 hch
  go_enter Tryz.func20, Tryz.ntmps20
  go_wp2_with fail
  go_loopw [24] (fun i wr => ∃ k : Nat, k ≤ s.size ∧ i = .int .i64 k ∧ Hid (∀ j, j < k → okc (chr s j) = true) ∧ wr = w) (fun i _ => s.size - (intOf i).toNat)
  case atStart => exact ⟨0, Nat.zero_le _, rfl, fun j hj => absurd hj (Nat.not_lt_zero j), rfl⟩
  case round =>
    obtain ⟨k, hk, rfl, hall, rfl⟩ := hrel
    by_cases hlt : k < s.size
    · have hb0 : decide ((k : Int) < (s.size : Int)) = true := decide_eq_true (by omega)
      have i0 : (0 : Int) ≤ (k : Int) := by omega
      have i1 : (k : Int) < (s.size : Int) := by omega
      have HC : Hid (chr s k = (s[k].toNat : Int)) := hid (chr_at hlt)
      go_wp2_with fail
      all_goals first
        | (have hok : okc (chr s k) = true := (by rw [HC.out]; first | exact okc_a (by omega) (by omega) | exact okc_b (by omega) (by omega) | exact okc_c (by assumption) | exact okc_d (by assumption))
           exact ⟨⟨k + 1, by omega, by go_num, all_succ hall.out hok, trivial⟩, by simp [intOf]; omega⟩)
        | (have hno : okc (chr s k) = false := (by rw [HC.out]; exact okc_n (by omega) (by omega) (by assumption) (by assumption))
           go_ret
           exact ⟨by rw [HFF.out k hlt hno]; rfl, rfl⟩)
    · have hb0 : decide ((k : Int) < (s.size : Int)) = false := decide_eq_false (by omega)
      go_wp2_with fail
      go_ret
      exact ⟨by rw [HT.out (fun j hj => hall.out j (by omega))]; rfl, rfl⟩

end Go.Proofs.YtbkhademplgicaaGreatDoor

namespace Go.Proofs.YtbkhademplgicaaGreatDoor
open Go.RowKit
set_option linter.unusedVariables false
theorem infoFile : (Tryz.prog.info? 129).map (fun i => (i.zero, i.size, i.bytes)) = some (some (.agg #[.slice none 0 0, .int .i64 0]), 2, 32) := by kernel_rfl
theorem ptr_same (a : Nat) (w : World) : (binOp .eql 105 (.pointer (some ⟨a, 0, none⟩)) (.pointer (some ⟨a, 0, none⟩))).run Tryz.prog w = .ok (.bool true) w := by
  obtain ⟨i, hi, _⟩ := info_parts infoFile
  exact run_eql_ptr_same w _ Tryz.underlying105 hi
theorem ptr_other {a b : Nat} {ca cb : Array Value} {w : World} (hne : a ≠ b) (ha : w.heap[a]? = some (.cells ca 129 (0, 0))) (hb : w.heap[b]? = some (.cells cb 129 (0, 0))) :
    (binOp .eql 105 (.pointer (some ⟨a, 0, none⟩)) (.pointer (some ⟨b, 0, none⟩))).run Tryz.prog w = .ok (.bool false) w := by
  obtain ⟨i, hi, _, hs, _⟩ := info_parts infoFile
  exact run_eql_ptr_other w Tryz.underlying105 hi (by rw [hs]; decide) (fun e => hne (by injection e)) ha hb
def newErr (D : DS) (n : Nm) : Int := if D.off then 9 else if goodB n then (if D.fit then createErr1 D else 9) else 3
def newD (D : DS) (n : Nm) : DS := if D.off then D else if goodB n then (if D.fit then createD1 D.begun n else D.begun) else D
theorem en35 : Enters Tryz.prog 98 := enters_of Tryz.func98 (by kernel_rfl) rfl

set_option maxRecDepth 100000 in
set_option maxHeartbeats 1000000 in
theorem create_new (p : Nat) (ro : Nat → Role) (D : DS) (hok : D.Ok) (n : Nm) (hsz : n.size ≤ 9223372036854775806) (w : World) (h : Dk w p ro D) (hn : aget D.F n = none) :
    Calls Tryz.prog 56 #[.pointer (some ⟨p, 0, none⟩), .string n] w (Op1 w ro p (newErr D n) (newD D n)) := by
  have HD := hid h
  obtain ⟨m, fp, bv, BV, h⟩ := h
  have H := hid h
  have hp := blk_lt h.cell
  have B1 := hid h.cell
  obtain ⟨bo, hbo⟩ : ∃ x, D.off = x := ⟨_, rfl⟩
  have HBO := hid hbo
  have HN := hid hn
  have hmf : ∀ (fn : Fn) (first cap : Array Value) (w : World), (Instr.makeFunc fn first cap).run Tryz.prog w = .ok (.func fn first cap) w := fun _ _ _ _ => rfl
  clear h hbo hn
  cases bo
  · obtain ⟨gb, hgb⟩ : ∃ x, goodB n = x := ⟨_, rfl⟩
    have HG := hid hgb
    clear hgb
    cases gb
    · go_enter Tryz.func56, Tryz.ntmps56
      go_wp2_with fail
      refine (may_any p m D _ bv _ (by exact blk_alloc (blk_alloc B1.out _) _)).mono ?_
      rintro e w1 ⟨rfl, rfl⟩
      rw [show mayErr D = 0 from by rw [mayErr, HBO.out]; rfl]
      go_wp2_with fail
      refine (good_any n hsz _).mono ?_
      rintro e w1 ⟨rfl, rfl⟩
      rw [HG.out]
      go_wp2_with fail
      go_ret
      exact ⟨by rw [newErr, HBO.out, HG.out]; rfl, by rw [newD, HBO.out, HG.out]; exact HD.out.nx ((Kp.al _ _).alloc _)⟩
    · go_enter Tryz.func56, Tryz.ntmps56
      go_wp2_with fail
      refine (may_any p m D _ bv _ (by exact blk_alloc (blk_alloc B1.out _) _)).mono ?_
      rintro e w1 ⟨rfl, rfl⟩
      rw [show mayErr D = 0 from by rw [mayErr, HBO.out]; rfl]
      go_wp2_with fail
      refine (good_any n hsz _).mono ?_
      rintro e w1 ⟨rfl, rfl⟩
      rw [HG.out]
      go_wp2_with fail
      have hk3 : Kp All w ((w.alloc (.cells #[.pointer (some ⟨p, 0, none⟩)] 51)).alloc (.cells #[.string n] 9)) := (Kp.al _ _).alloc _
      have H3 := H.out.kept hk3 (fun _ _ => trivial)
      have hc : D.fit = true → ∀ w1, Dk0 w1 p ro D.begun m fp bv BV → Kp (fun b => b ≠ p) ((w.alloc (.cells #[.pointer (some ⟨p, 0, none⟩)] 51)).alloc (.cells #[.string n] 9)) w1 → Calls Tryz.prog 98 #[.pointer (some ⟨w.heap.size, 0, none⟩), .pointer (some ⟨w.heap.size + 1, 0, none⟩)] w1 (Op1 w ro p (createErr1 D.begun) (createD1 D.begun n)) := by
        intro hfit w1 h1 k1
        obtain ⟨eF, eB, eb, eo⟩ := begun_fit hfit
        have kk : Kp (fun z => ro z = .none) w w1 := hk3.all.trans (k1.mono fun z _ hz => ndisk H.out.rp z hz)
        have x1 := blk_new w (.cells #[.pointer (some ⟨p, 0, none⟩)] 51)
        have x2 := blk_new (w.alloc (.cells #[.pointer (some ⟨p, 0, none⟩)] 51)) (.cells #[.string n] 9)
        rw [World.size_alloc] at x2
        have := (create1_new p ro D.begun n w.heap.size (w.heap.size + 1) w1 ⟨m, fp, bv, BV, h1⟩ (by rw [eF]; exact HN.out) (k1.heap x2 (by omega)) (k1.heap (blk_alloc x1 _) (by omega)) (H.out.rnew _ (by omega)) (H.out.rnew _ (by omega)))
        exact this.mono fun e w' h => h.pre kk
      refine (does_any p ro D hok.o0 hok.o1 hok.f1 _ m fp bv BV H3 98 _ en35 (Op1 w ro p (createErr1 D.begun) (createD1 D.begun n)) (fun _ _ h => h.num) hc).mono ?_
      rintro e w1 ⟨hn1, hn2⟩
      cases hfit : D.fit with
      | false =>
        obtain ⟨rfl, hnx⟩ := hn1 hfit
        have HNX := hid hnx
        have HFT := hid hfit
        clear hn1 hn2 hnx hfit hc H3
        go_wp2_with fail
        go_ret
        refine ⟨?_, ?_⟩
        · rw [newErr, HBO.out, HG.out]; simp [HFT.out]
        · rw [newD, HBO.out, HG.out]
          simp only [HFT.out, Bool.false_eq_true, if_false, if_true]
          exact Nx.pre hk3 HNX.out
      | true =>
        obtain ⟨rfl, hp2⟩ := hn2 hfit
        obtain ⟨eF, eB, eb, eo⟩ := begun_fit hfit
        have HP2 := hid hp2
        have HFT := hid hfit
        have HE : Hid (createErr1 D.begun = createErr1 D) := hid (by rw [createErr1, createErr1, eF, eB, eb])
        clear hn1 hn2 hp2 hfit hc H3 eF eB eb eo
        go_wp2_with fail
        go_ret
        refine ⟨?_, ?_⟩
        · rw [newErr, HBO.out, HG.out]; simp [HFT.out, HE.out]
        · rw [newD, HBO.out, HG.out]
          simp only [HFT.out, if_true, Bool.false_eq_true, if_false]
          exact HP2.out
  · go_enter Tryz.func56, Tryz.ntmps56
    go_wp2_with fail
    refine (may_any p m D _ bv _ (by exact blk_alloc (blk_alloc B1.out _) _)).mono ?_
    rintro e w1 ⟨rfl, rfl⟩
    rw [show mayErr D = 9 from by rw [mayErr, HBO.out]; rfl]
    go_wp2_with fail
    go_ret
    exact ⟨by rw [newErr, HBO.out]; rfl, by rw [newD, HBO.out]; exact HD.out.nx ((Kp.al _ _).alloc _)⟩

/-- the bytes of a file, those that are not sure too -/
def pieces (B : List (Nm × By)) (n : Nm) : By := B.flatMap fun x => if x.1 = n then x.2 else []
theorem pieces_take {B : List (Nm × By)} {n : Nm} {k : Nat} {x : Nm × By} (h : B[k]? = some x) : pieces (B.take (k + 1)) n = pieces (B.take k) n ++ (if x.1 = n then x.2 else []) := by
  unfold pieces
  rw [List.take_add_one, h]
  simp
theorem pieces_le (B : List (Nm × By)) (n : Nm) : (pieces B n).length ≤ pend B := by
  induction B with
  | nil => simp [pieces, pend]
  | cons x l ih =>
    simp only [pieces, List.flatMap_cons, List.length_append, pend, List.map_cons, List.sum_cons] at ih ⊢
    split
    · omega
    · simp only [List.length_nil]; omega
def readErr (D : DS) (n : Nm) : Int := if D.off then 9 else if (aget D.F n).isSome then 0 else 4
def readB (D : DS) (n : Nm) : By := if D.off then [] else match aget D.F n with
  | none => []
  | some s => s ++ pieces D.B n
def Read (w : World) (b : By) (err : Int) (e : Ending) (w' : World) : Prop :=
  ∃ v, e = .returned (.tuple #[v, .int .i64 err]) ∧ w'.ownsRow w.heap.size 5 1 v b.length (u8s b) ∧ Kp All w w'

set_option maxRecDepth 100000 in
set_option maxHeartbeats 1000000 in
theorem read_any (p : Nat) (ro : Nat → Role) (D : DS) (n : Nm) (w : World) (h : Dk w p ro D) :
    Calls Tryz.prog 68 #[.pointer (some ⟨p, 0, none⟩), .string n] w (Read w (readB D n) (readErr D n)) := by
  have HD := hid h
  obtain ⟨m, fp, bv, BV, h⟩ := h
  have H := hid h
  have hp := blk_lt h.cell
  have c1 := blk_cell h.cell
  have B1 := hid h.cell
  unfold dcs at c1
  obtain ⟨bo, hbo⟩ : ∃ x, D.off = x := ⟨_, rfl⟩
  obtain ⟨y, hy⟩ : ∃ y, aget D.F n = y := ⟨_, rfl⟩
  have HBO := hid hbo
  have HY := hid hy
  have hz : ∀ w : World, (zeroValue 105).run Tryz.prog w = .ok (.pointer none) w := fun w => by kernel_rfl
  have hmap : (aget (D.F.map fun x => (x.1, Value.pointer (some ⟨fp x.1, 0, none⟩))) n) = y.map fun _ => Value.pointer (some ⟨fp n, 0, none⟩) := by
    rw [aget_keys D.F (fun x => Value.pointer (some ⟨fp x, 0, none⟩)), hy]
  have HMAP := hid hmap
  have hpl := h.pend_le
  clear h hbo hy hmap
  cases bo
  · cases y with
    | none =>
      have hv : (aget (D.F.map fun x => (x.1, Value.pointer (some ⟨fp x.1, 0, none⟩))) n).getD (.pointer none) = .pointer none := by rw [HMAP.out]; rfl
      have HV := hid hv
      clear hv
      go_enter Tryz.func68, Tryz.ntmps68
      go_wp2_with fail
      refine (may_any p m D _ bv _ B1.out).mono ?_
      rintro e w1 ⟨rfl, rfl⟩
      rw [show mayErr D = 0 from by rw [mayErr, HBO.out]; rfl]
      go_wp2_with (at_lookup; go_loud (refine wpList_lookup_val strKey Tryz.underlying88 H.out.map n (hz _) HV.out rfl _ _ rfl rfl rfl ?_))
      refine bodyPost_ret (v := .tuple #[.slice none 0 0, .int .i64 4]) (by simp [results, Tryz.results68, go_sem]) rfl ⟨.slice none 0 0, ?_, ?_, Kp.refl _ _⟩
      · rw [readErr, HBO.out, HY.out]; rfl
      · rw [readB, HBO.out, HY.out]; exact World.ownsRow_nil _ _ _ _
    | some s =>
      have hv : (aget (D.F.map fun x => (x.1, Value.pointer (some ⟨fp x.1, 0, none⟩))) n).getD (.pointer none) = .pointer (some ⟨fp n, 0, none⟩) := by rw [HMAP.out]; rfl
      have HV := hid hv
      have hs := aget_mem HY.out
      have hsz := H.out.size_le hs
      obtain ⟨sv, q1, q2, q3⟩ := H.out.fl.lie _ hs
      simp only at q1 q2 q3 hsz
      obtain ⟨SA, sc, rfl⟩ := own_shape q2
      obtain ⟨BA, bc, rfl⟩ := own_shape H.out.bf.row
      have hsl : Foot All (Sl SA s.length sc 1 (u8s s)) w := by
        have := (own_sl q2 (Nat.le_refl _)).1
        intro u hu
        have h2 := (own_sl (own_kept q2 hu (fun _ _ => trivial)) (Nat.le_refl s.length)).1
        rwa [List.take_of_length_le (by simp)] at h2
      have hl8 : s.length ≤ 140737488355328 := by omega
      obtain ⟨l, hl⟩ : ∃ l, D.B.length = l := ⟨_, rfl⟩
      have hnm := own_le H.out.bf.row
      rw [hl] at hnm c1
      have HL := hid hl
      obtain ⟨f, hf⟩ : ∃ f, fp n = f := ⟨_, rfl⟩
      rw [hf] at q1
      rw [hf] at hv
      have HV := hid hv
      have HF := hid hf
      have c2 := blk_cell q1
      have HSL := hid hsl; have HS := hid hs
      have HQ1 := hid q1
      clear hv hsl hl hf hs q1
      go_enter Tryz.func68, Tryz.ntmps68
      go_wp2_with fail
      refine (may_any p m D _ _ _ B1.out).mono ?_
      rintro e w1 ⟨rfl, rfl⟩
      rw [show mayErr D = 0 from by rw [mayErr, HBO.out]; rfl]
      go_wp2_with (at_lookup; go_loud (refine wpList_lookup_val strKey Tryz.underlying88 H.out.map n (hz _) HV.out rfl _ _ rfl rfl rfl ?_))
      refine (clone8_any SA s.length sc (u8s s) w HSL.out hl8 (u8s_one s)).mono ?_
      rintro e w1 ⟨⟨v, rfl, hv⟩, hk⟩
      obtain ⟨Av, cv, rfl⟩ := own_shape hv
      have c1 := blk_cell (hk.heap B1.out trivial)
      unfold dcs at c1
      rw [HL.out] at c1
      have HV1 := hid hv; have HK := hid hk
      clear hv hk
      go_wp2_with fail
      go_loopw [8, 34] (fun x i wr => ∃ (k : Nat) (b : By), k ≤ l ∧ i = .int .i64 k ∧ b = s ++ pieces (D.B.take k) n ∧ Hid (wr.ownsRow w.heap.size 5 1 x b.length (u8s b)) ∧ Hid (Kp All w wr)) (fun _ i _ => l - (intOf i).toNat)
      case atStart => exact ⟨0, s, Nat.zero_le _, rfl, by simp [pieces], HV1.out, HK.out⟩
      case round =>
        obtain ⟨k, b, hk, rfl, hb, hown, hkp⟩ := hrel
        by_cases hlt : k < l
        · have hb0 : decide ((k : Int) < (l : Int)) = true := decide_eq_true (by omega)
          obtain ⟨x, hx⟩ : ∃ x, D.B[k]? = some x := ⟨_, List.getElem?_eq_getElem (by rw [HL.out]; exact hlt)⟩
          have hpt := pieces_take (n := n) hx
          obtain ⟨g, cap, A', c', e1, _, p1, p2, p3, p4, _⟩ := (H.out.kept hkp.out (fun _ _ => trivial)).bf.at hx
          rw [HL.out] at e1
          injection e1 with eA _ ec
          subst eA ec
          have i0 : (0 : Int) ≤ (k : Int) := by omega
          have i1 : (k : Int) < (l : Int) := by omega
          have hbl : b.length ≤ 2147483648 := by
            have h1 := pieces_le (D.B.take k) n
            have h2 := pend_take_le D.B k
            rw [hb, List.length_append]
            omega
          have hxl : x.2.length ≤ 1073741824 := by
            have h1 := pend_take hx
            have h2 := pend_take_le D.B (k + 1)
            omega
          obtain ⟨Ab, cb, hbe⟩ := own_shape hown.out
          by_cases hxn : x.1 = n
          · rw [if_pos hxn] at hpt
            rw [hxn, HF.out] at p1
            have HX := hid hx; have HPT := hid hpt; have HBB := hid hb
            have P3 := hid p3
            subst hbe
            obtain ⟨lx, hlx⟩ : ∃ z, x.2.length = z := ⟨_, rfl⟩
            obtain ⟨lb, hlb⟩ : ∃ z, b.length = z := ⟨_, rfl⟩
            have HLX := hid hlx; have HLB := hid hlb
            rw [hlx] at p2 hxl
            rw [hlb] at hbl
            have ho2 := hown.out
            rw [hlb] at ho2 ⊢
            have HO2 := hid ho2
            have p3' := p3
            rw [hlx] at p3'
            have P3 := hid (fun o => (own_sl (World.ownsRow.alloc p3' o) (Nat.le_refl lx)).1)
            have h8 := u8s_one x.2
            have H8 := hid h8
            have hlen : lx = (u8s x.2).length := by rw [u8s_len, hlx]
            have HLEN := hid hlen
            have hsz1 : w.heap.size ≤ wr.heap.size := hkp.out.size
            have hbnd : (lb + lx) * 1 ≤ 140737488355328 := by omega
            have hsame := ptr_same f
            clear hx hpt hb p3 p4 hlx hlb ho2 p3' h8 hlen hown
            go_wp2_with (at_builtin; go_loud (refine wpList_app el8 (HO2.out.alloc _) (by have := P3.out (.cells #[.pointer (some ⟨f, 0, none⟩), .slice A' lx c'] 133); exact this) ?_ hbnd (by simp; omega) rfl _ _ rfl rfl rfl ?_); (exact fun u hu => H8.out u (List.mem_of_mem_take hu)); intro v' w2 hown2 hg2 hob2 hnil2; obtain ⟨A2, c2', rfl⟩ := own_shape hown2; have HOW := hid hown2; have HG2 := hid hg2; clear hown2 hg2 hob2 hnil2)
            have hfin : w2.ownsRow w.heap.size 5 1 (.slice A2 (lb + lx) c2') (b ++ x.2).length (u8s (b ++ x.2)) := by
              rw [List.length_append, HLB.out, HLX.out, u8s_append]
              have := HOW.out
              rwa [List.take_of_length_le (by rw [← HLEN.out]; exact Nat.le_refl _)] at this
            have hkw : Kp All w w2 := (hkp.out.alloc _).then (Kp.grown HG2.out) (fun i hi _ e => by
              have := (HO2.out.lt i e.symm).1
              omega)
            exact ⟨⟨k + 1, b ++ x.2, by omega, by go_num, by rw [HPT.out, ← List.append_assoc, ← HBB.out], hfin, hkw⟩, by simp [intOf]; omega⟩
          · rw [if_neg hxn, List.append_nil] at hpt
            obtain ⟨s', hs'⟩ := mem_keys (H.out.names x (List.mem_of_getElem? hx))
            have hne : fp x.1 ≠ f := fun e => hxn (H.out.fl.inj (x.1, s') hs' (n, s) HS.out (by simp only; rw [HF.out]; exact e))
            obtain ⟨fx, hfx⟩ : ∃ z, fp x.1 = z := ⟨_, rfl⟩
            rw [hfx] at p1 hne
            have HPT := hid hpt
            obtain ⟨_, qx, _⟩ := (H.out.kept hkp.out (fun _ _ => trivial)).fl.lie _ hs'
            simp only at qx
            rw [hfx] at qx
            have hoth := fun o => ptr_other (w := wr.alloc o) hne (blk_alloc qx o) (blk_alloc (hkp.out.heap HQ1.out trivial) o)
            clear qx
            subst hbe
            clear hx hpt p3 p4 hs' hfx
            have HBB := hid hb
            clear hb
            go_wp2_with fail
            exact ⟨⟨k + 1, b, by omega, by go_num, by rw [HPT.out]; exact HBB.out, World.ownsRow.alloc hown.out _, hkp.out.alloc _⟩, by simp [intOf]; omega⟩
        · have hb0 : decide ((k : Int) < (l : Int)) = false := decide_eq_false (by omega)
          have : k = l := by omega
          subst this
          rw [List.take_of_length_le (by rw [HL.out]; exact Nat.le_refl _)] at hb
          obtain ⟨Ab, cb, hbe⟩ := own_shape hown.out
          subst hbe
          go_wp2_with fail
          refine bodyPost_ret (v := .tuple #[.slice Ab b.length cb, .int .i64 0]) (by simp [results, Tryz.results68, go_sem]) rfl ⟨.slice Ab b.length cb, ?_, ?_, hkp.out⟩
          · rw [readErr, HBO.out, HY.out]; rfl
          · have : readB D n = b := by rw [readB, HBO.out, HY.out, hb]; rfl
            rw [this]
            exact hown.out
  · go_enter Tryz.func68, Tryz.ntmps68
    go_wp2_with fail
    refine (may_any p m D _ bv _ B1.out).mono ?_
    rintro e w1 ⟨rfl, rfl⟩
    rw [show mayErr D = 9 from by rw [mayErr, HBO.out]; rfl]
    go_wp2_with fail
    refine bodyPost_ret (v := .tuple #[.slice none 0 0, .int .i64 9]) (by simp [results, Tryz.results68, go_sem]) rfl ⟨.slice none 0 0, ?_, ?_, Kp.refl _ _⟩
    · rw [readErr, HBO.out]; rfl
    · rw [readB, HBO.out]; exact World.ownsRow_nil _ _ _ _
end Go.Proofs.YtbkhademplgicaaGreatDoor
