/- The disk: the body of Append, walked once. No condition on the disk but that it lies as Dk says. -/
import Derived.Test.YtdlbccjimdghkaaDP
import Derived.IntWalk
import Derived.Deep.Onto
namespace Go.Proofs.Ytdlbccjimdghkaa
open Go.RowKit
set_option linter.unusedVariables false
set_option linter.unusedSimpArgs false
theorem needs_int (x : Int) (n : Nat) (hx : x = (n : Int)) (hn : n ≤ 1099511627776) (w : World) : Calls Try.prog 40 #[.int .i64 x] w fun e w' => e = .returned (.int .i64 (needs n)) ∧ w = w' := by
  subst hx
  exact needs_any n hn w
theorem sl_one (w : World) (a b : Value) (t : TypeId) : Sl (some ⟨w.heap.size, 0, none⟩) 1 1 2 [a, b] (w.alloc (.cells #[a, b] t)) := by
  refine ⟨rfl, Nat.le_refl _, fun _ => ⟨_, 0, rfl, fun j u hj => ?_⟩⟩
  rw [Nat.zero_add, blk_cell (blk_new w _)]
  simpa using hj
theorem two_one (a : Option Addr) (b : Option Addr) (n c : Nat) : ∀ u ∈ [Value.pointer a, Value.slice b n c], u.oneCell' = true := by
  intro u hu
  simp at hu
  rcases hu with rfl | rfl <;> rfl
set_option maxRecDepth 100000 in
set_option maxHeartbeats 2000000 in
theorem append1_any (p : Nat) (ro : Nat → Role) (D : DS) (m : Nat) (fp : Nm → Nat) (bv : Value) (BV : List (Nm × By × Value)) (n : Nm) (s b : By) (A : Option Addr) (c fb bb db : Nat) (w : World) (h : Dk0 w p ro D m fp bv BV) (hs : (n, s) ∈ D.F)
    (hb : Foot (fun k => ro k = .none) (Sl A b.length c 1 (u8s b)) w) (hbl : b.length ≤ 549755813888) (hBl : D.B.length ≤ 1073741824)
    (b3 : w.heap[fb]? = some (.cells #[.pointer (some ⟨fp n, 0, none⟩)] 62 (0, 0))) (b4 : w.heap[bb]? = some (.cells #[.slice A b.length c] 32 (0, 0))) (b5 : w.heap[db]? = some (.cells #[.pointer (some ⟨p, 0, none⟩)] 27 (0, 0)))
    (r3 : ro fb = .none) (r4 : ro bb = .none) (r5 : ro db = .none) :
    Calls Try.prog 39 #[.pointer (some ⟨fb, 0, none⟩), .pointer (some ⟨bb, 0, none⟩), .pointer (some ⟨db, 0, none⟩)] w (AppPost w ro p D n s b) := by
  obtain ⟨BA, bc, rfl⟩ := own_shape h.bf.row
  have H := hid h
  have HS := hid hs
  have HB := hid hb
  have hsz := h.size_le hs
  obtain ⟨sv, q1, q2, q3⟩ := h.fl.lie _ hs
  have q4 := h.fl.role _ hs
  obtain ⟨SA, sc, rfl⟩ := own_shape q2
  have hnd : (D.F.map (·.1)).Nodup := by
    have := h.map.nodup strKey
    simpa [List.map_map, Function.comp_def] using this
  have hu := used_push (B := D.B) (b := b) hnd hs
  have hul := h.us
  have hbl2 := h.bl
  have b1 := h.cell
  have HG : Hid (grow D n s b.length = needs (s.length + moreOf D.B n + b.length) - needs (s.length + moreOf D.B n)) := hid rfl
  simp only at q1 q2 q3 q4 hsz
  obtain ⟨f, hf⟩ : ∃ f, fp n = f := ⟨_, rfl⟩
  obtain ⟨lb, hlb⟩ : ∃ z, b.length = z := ⟨_, rfl⟩
  obtain ⟨ls, hls⟩ : ∃ z, s.length = z := ⟨_, rfl⟩
  obtain ⟨mo, hmo⟩ : ∃ z, moreOf D.B n = z := ⟨_, rfl⟩
  obtain ⟨u, hu1⟩ : ∃ z, usedOf D.F D.B = z := ⟨_, rfl⟩
  obtain ⟨L, hL⟩ : ∃ z, D.B.length = z := ⟨_, rfl⟩
  have HLL := hid hL
  have hrow := h.bf.row
  have hrole := h.bf.role
  rw [hL] at b1 hrow hrole hBl
  have HROW := hid hrow
  have HROLE := hid hrole
  clear hrow hrole
  clear hL
  have HF := hid hf; have HL := hid hlb; have HLS := hid hls; have HMO := hid hmo; have HU1 := hid hu1
  rw [hmo, hls, hlb] at hu
  rw [hmo, hls] at hsz
  rw [hf, hmo, hls] at q1
  rw [hls] at q2
  rw [hls, hf] at q3
  rw [hf] at q4 b3
  rw [hlb] at b4 hbl
  rw [hu1] at b1 hul hu
  have b2 := q1
  have hpf : f ≠ p := fun e => by rw [e, h.rp] at q4; cases q4
  have hgr : needs (ls + mo) ≤ needs (ls + mo + lb) := by unfold needs; omega
  have hgr2 : needs (ls + mo + lb) ≤ 1099511627776 := by unfold needs; omega
  clear h hs hb hf hlb hls hmo hu1 q1
  have HU := hid hu; clear hu
  have c1 := blk_cell b1; have c2 := blk_cell b2; have c3 := blk_cell b3; have c4 := blk_cell b4; have c5 := blk_cell b5; have f1 := blk_free b1; have f2 := blk_free b2; have f3 := blk_free b3; have f4 := blk_free b4; have f5 := blk_free b5; have B1 := hid b1; have B2 := hid b2; have B3 := hid b3; have B4 := hid b4; have B5 := hid b5; unfold dcs at c1; clear b1 b2 b3 b4 b5
  by_cases hr : D.blocks - (u : Int) < ((needs (ls + mo + lb) - needs (ls + mo) : Nat) : Int)
  · have hd : decide (D.blocks - (u : Int) < (needs (ls + mo + lb) : Int) - (needs (ls + mo) : Int)) = true := decide_eq_true (by omega)
    have hg : Hid (D.blocks - (usedOf D.F D.B : Int) < (grow D n s b.length : Int)) := hid (by rw [grow, HLS.out, HMO.out, HL.out, HU1.out]; exact hr)
    have hz1 : ls + mo + lb ≤ 1099511627776 := by omega
    have hw1 : IntKind.i64.wrap ((ls : Int) + (mo : Int) + (lb : Int)) = (ls : Int) + (mo : Int) + (lb : Int) := IntWalk.i64_in _ (by omega)
    have hw2 : IntKind.i64.wrap ((needs (ls + mo + lb) : Int) - (needs (ls + mo) : Int)) = (needs (ls + mo + lb) : Int) - (needs (ls + mo) : Int) := IntWalk.i64_in _ (by omega)
    have hw3 : IntKind.i64.wrap (D.blocks - (u : Int)) = D.blocks - (u : Int) := IntWalk.i64_in _ (by omega)
    clear hr
    go_enter Try.func39, Try.ntmps39
    go_wp2_with fail
    go_quiet ((first | (go_at_call 41; refine (size_any f SA ls sc mo (by omega) (by omega) _ (by exact B2.out)).mono ?_; rintro e w1 ⟨rfl, q, rfl⟩; exact ⟨rfl, _, World.drewN_drewN _ _ _⟩) | (go_at_call 40; refine (needs_int _ (ls + mo + lb) ?_ ?_ _).mono ?_; omega; omega; rintro e w2 ⟨rfl, rfl⟩; exact ⟨rfl, _, rfl⟩) | (go_at_call 40; refine (needs_int _ (ls + mo) ?_ ?_ _).mono ?_; omega; omega; rintro e w2 ⟨rfl, rfl⟩; exact ⟨rfl, _, rfl⟩)))
    go_wp2_with fail
    go_quiet (fail)
    go_wp2_with fail
    go_ret
    unfold AppPost
    rw [if_pos hg.out]
    exact ⟨rfl, Dk.nx ⟨m, fp, _, BV, H.out⟩ (((Kp.refl All w).drewN _).drewN _)⟩
  · have hd : decide (D.blocks - (u : Int) < (needs (ls + mo + lb) : Int) - (needs (ls + mo) : Int)) = false := decide_eq_false (by omega)
    have hz1 : ls + mo + lb ≤ 1099511627776 := by omega
    have hw1 : IntKind.i64.wrap ((ls : Int) + (mo : Int) + (lb : Int)) = (ls : Int) + (mo : Int) + (lb : Int) := IntWalk.i64_in _ (by omega)
    have hw2 : IntKind.i64.wrap ((needs (ls + mo + lb) : Int) - (needs (ls + mo) : Int)) = (needs (ls + mo + lb) : Int) - (needs (ls + mo) : Int) := IntWalk.i64_in _ (by omega)
    have hw3 : IntKind.i64.wrap (D.blocks - (u : Int)) = D.blocks - (u : Int) := IntWalk.i64_in _ (by omega)
    have hw4 : IntKind.i64.wrap ((u : Int) + ((needs (ls + mo + lb) : Int) - (needs (ls + mo) : Int))) = (u : Int) + ((needs (ls + mo + lb) : Int) - (needs (ls + mo) : Int)) := IntWalk.i64_in _ (by omega)
    have hw5 : IntKind.i64.wrap ((mo : Int) + (lb : Int)) = (mo : Int) + (lb : Int) := IntWalk.i64_in _ (by omega)
    have HZ1 := hid hz1
    go_enter Try.func39, Try.ntmps39
    go_wp2_with fail
    go_quiet ((first | (go_at_call 41; refine (size_any f SA ls sc mo (by omega) (by omega) _ (by exact B2.out)).mono ?_; rintro e w1 ⟨rfl, q, rfl⟩; exact ⟨rfl, _, World.drewN_drewN _ _ _⟩) | (go_at_call 40; refine (needs_int _ (ls + mo + lb) ?_ ?_ _).mono ?_; omega; omega; rintro e w2 ⟨rfl, rfl⟩; exact ⟨rfl, _, rfl⟩) | (go_at_call 40; refine (needs_int _ (ls + mo) ?_ ?_ _).mono ?_; omega; omega; rintro e w2 ⟨rfl, rfl⟩; exact ⟨rfl, _, rfl⟩)))
    generalize nq = qa
    go_wp2_with fail
    go_quiet (fail)
    generalize nq = qb
    go_wp2_with fail
    refine RegionLast.wp_region_end_quiet (by kernel_rfl) (by kernel_rfl) (by kernel_rfl) ?_; simp only [List.length_cons, List.length_nil, Nat.zero_add, Nat.reduceAdd, Nat.reduceSub, List.take_succ_cons, List.take_zero, List.drop_succ_cons, List.drop_zero]
    repeat (go_big_quiet_step (fail))
    refine wpQuiet_nil ?_; intro _ hw'; obtain ⟨nq, hw''⟩ := hw'; subst hw''
    generalize nq = qc
    go_wp2_with fail
    have n3p : fb ≠ p := ndisk H.out.rp fb r3
    have n4p : bb ≠ p := ndisk H.out.rp bb r4
    have n5p : db ≠ p := ndisk H.out.rp db r5
    have n3f : fb ≠ f := fun e => by rw [e, q4] at r3; cases r3
    have n4f : bb ≠ f := fun e => by rw [e, q4] at r4; cases r4
    have n5f : db ≠ f := fun e => by rw [e, q4] at r5; cases r5
    have b1 := blk_far (w := ((w.drewN (qa + qb)).setCell ⟨p, 1, none⟩ (.int .i64 ((u : Int) + ((needs (ls + mo + lb) : Int) - (needs (ls + mo) : Int))))).drewN qc) (p := ⟨f, 1, none⟩) (by exact blk_set (w := w.drewN (qa + qb)) (by exact B1.out) 1 (.int .i64 ((u : Int) + ((needs (ls + mo + lb) : Int) - (needs (ls + mo) : Int))))) (Ne.symm hpf) (.int .i64 ((mo : Int) + (lb : Int)))
    have b2 := blk_set (w := ((w.drewN (qa + qb)).setCell ⟨p, 1, none⟩ (.int .i64 ((u : Int) + ((needs (ls + mo + lb) : Int) - (needs (ls + mo) : Int))))).drewN qc) (by exact blk_far (w := w.drewN (qa + qb)) (p := ⟨p, 1, none⟩) (by exact B2.out) hpf (.int .i64 ((u : Int) + ((needs (ls + mo + lb) : Int) - (needs (ls + mo) : Int))))) 1 (.int .i64 ((mo : Int) + (lb : Int)))
    have b3 := blk_far (w := ((w.drewN (qa + qb)).setCell ⟨p, 1, none⟩ (.int .i64 ((u : Int) + ((needs (ls + mo + lb) : Int) - (needs (ls + mo) : Int))))).drewN qc) (p := ⟨f, 1, none⟩) (by exact blk_far (w := w.drewN (qa + qb)) (p := ⟨p, 1, none⟩) (by exact B3.out) n3p (.int .i64 ((u : Int) + ((needs (ls + mo + lb) : Int) - (needs (ls + mo) : Int))))) n3f (.int .i64 ((mo : Int) + (lb : Int)))
    have b4 := blk_far (w := ((w.drewN (qa + qb)).setCell ⟨p, 1, none⟩ (.int .i64 ((u : Int) + ((needs (ls + mo + lb) : Int) - (needs (ls + mo) : Int))))).drewN qc) (p := ⟨f, 1, none⟩) (by exact blk_far (w := w.drewN (qa + qb)) (p := ⟨p, 1, none⟩) (by exact B4.out) n4p (.int .i64 ((u : Int) + ((needs (ls + mo + lb) : Int) - (needs (ls + mo) : Int))))) n4f (.int .i64 ((mo : Int) + (lb : Int)))
    have b5 := blk_far (w := ((w.drewN (qa + qb)).setCell ⟨p, 1, none⟩ (.int .i64 ((u : Int) + ((needs (ls + mo + lb) : Int) - (needs (ls + mo) : Int))))).drewN qc) (p := ⟨f, 1, none⟩) (by exact blk_far (w := w.drewN (qa + qb)) (p := ⟨p, 1, none⟩) (by exact B5.out) n5p (.int .i64 ((u : Int) + ((needs (ls + mo + lb) : Int) - (needs (ls + mo) : Int))))) n5f (.int .i64 ((mo : Int) + (lb : Int)))
    have k2 : Kp (fun b => b ≠ p ∧ b ≠ f) w ((((w.drewN (qa + qb)).setCell ⟨p, 1, none⟩ (.int .i64 ((u : Int) + ((needs (ls + mo + lb) : Int) - (needs (ls + mo) : Int))))).drewN qc).setCell ⟨f, 1, none⟩ (.int .i64 ((mo : Int) + (lb : Int)))) := ((((Kp.refl _ _).drewN _).setOut (by simp) _).drewN _).setOut (by simp) _
    rw [show ((dcs D (u : Int) m (.slice BA L bc)).setIfInBounds 1 (.int .i64 ((u : Int) + ((needs (ls + mo + lb) : Int) - (needs (ls + mo) : Int))))) = dcs D ((u : Int) + ((needs (ls + mo + lb) : Int) - (needs (ls + mo) : Int))) m (.slice BA L bc) from rfl] at b1
    rw [show ((#[.slice SA ls sc, .int .i64 (mo : Int)] : Array Value).setIfInBounds 1 (.int .i64 ((mo : Int) + (lb : Int)))) = #[.slice SA ls sc, .int .i64 ((mo : Int) + (lb : Int))] from rfl] at b2
    obtain ⟨w2, hW2⟩ : ∃ w2, w2 = ((((w.drewN (qa + qb)).setCell ⟨p, 1, none⟩ (.int .i64 ((u : Int) + ((needs (ls + mo + lb) : Int) - (needs (ls + mo) : Int))))).drewN qc).setCell ⟨f, 1, none⟩ (.int .i64 ((mo : Int) + (lb : Int)))) := ⟨_, rfl⟩
    rw [← hW2] at b1 b2 b3 b4 b5 k2 ⊢
    clear c1 c2 c3 c4 c5 f1 f2 f3 f4 f5 hW2 hw1 hw2 hw3 hw4 hw5
    have c1 := blk_cell b1; have c2 := blk_cell b2; have c3 := blk_cell b3; have c4 := blk_cell b4; have c5 := blk_cell b5; have f1 := blk_free b1; have f2 := blk_free b2; have f3 := blk_free b3; have f4 := blk_free b4; have f5 := blk_free b5; have B1 := hid b1; have B2 := hid b2; have B3 := hid b3; have B4 := hid b4; have B5 := hid b5; unfold dcs at c1; clear b1 b2 b3 b4 b5
    have hK2 := hid k2
    clear k2
    have hbF : Foot All (Sl A lb c 1 (u8s b)) w2.drew := by
      have := HB.out
      rw [HL.out] at this
      exact (this.step ((hK2.out.mono fun k _ hk => ⟨(fun e => by rw [e, H.out.rp] at hk; cases hk), (fun e => by rw [e, q4] at hk; cases hk)⟩).drew)).mono fun _ _ _ => trivial
    have HBF := hid hbF
    clear hbF
    have hn8 : lb ≤ 140737488355328 := by omega
    have o3 := u8s_one b
    have HO3 := hid o3
    clear o3
    have hne : ∀ z, (Value.slice BA L bc).ownBlock = some z → z ≠ p ∧ z ≠ f := fun z hz => ⟨(fun e => by have := HROLE.out z hz; rw [e, H.out.rp] at this; cases this), (fun e => by have := HROLE.out z hz; rw [e, q4] at this; cases this)⟩
    have hnn : ∀ z, ro z = .none → some z ≠ (Value.slice BA L bc).ownBlock := fun z hz e => by have := HROLE.out z e.symm; rw [hz] at this; cases this
    have hnp : some p ≠ (Value.slice BA L bc).ownBlock := fun e => (hne p e.symm).1 rfl
    have hnf : some f ≠ (Value.slice BA L bc).ownBlock := fun e => (hne f e.symm).2 rfl
    have hn3 := hnn fb r3
    have hn4 := hnn bb r4
    have hn5 := hnn db r5
    have hg : Hid ((grow D n s b.length : Int) ≤ D.blocks - (usedOf D.F D.B : Int)) := hid (by rw [grow, HLS.out, HMO.out, HL.out, HU1.out]; exact hr)
    have hL32 : (L + 1) * 32 ≤ 140737488355328 := by omega
    refine RegionLast.wp_region_end_held (S := fun w' => (∀ i, w'.cell? ⟨p, i, none⟩ = (#[.int .i64 D.blocks, .int .i64 ((u : Int) + ((needs (ls + mo + lb) : Int) - (needs (ls + mo) : Int))), .map (some m), .slice BA L bc, .bool D.off, .int .i64 D.ops, .int .i64 D.fails, .int .i64 D.keep] : Array Value)[i]?) ∧ (∀ i, w'.cell? ⟨fb, i, none⟩ = (#[.pointer (some ⟨f, 0, none⟩)] : Array Value)[i]?) ∧ (∀ i, w'.cell? ⟨bb, i, none⟩ = (#[.slice A lb c] : Array Value)[i]?) ∧ (∀ i, w'.cell? ⟨db, i, none⟩ = (#[.pointer (some ⟨p, 0, none⟩)] : Array Value)[i]?)) (by kernel_rfl) (by kernel_rfl) ⟨c1, c3, c4, c5⟩ (fun hHeld => ?_)
    simp only [List.length_cons, List.length_nil, Nat.zero_add, Nat.reduceAdd, Nat.reduceSub, List.take_succ_cons, List.take_zero, List.drop_succ_cons, List.drop_zero]
    (refine wpAnyH_take (i := 0) (oi := _) (v := ?_) (by (simp only [List.getElem?_toArray, List.getElem?_cons_succ, List.getElem?_cons_zero]); rfl) (by kernel_rfl) (by kernel_rfl) (by kernel_rfl) (by exact fun _ _ _ h => h) (Or.inl ⟨by rfl, ?_⟩) (by assumption) ?_; rotate_left; focus ((intro w hSw; (try dsimp only at hSw); go_simp) <;> with_reducible rfl); (try simp only [Act.put, List.getElem_toArray, List.getElem_cons_succ, List.getElem_cons_zero, List.setIfInBounds_toArray, List.set_cons_zero, List.set_cons_succ]))
    (refine wpAnyH_take (i := 1) (oi := _) (v := ?_) (by (simp only [List.getElem?_toArray, List.getElem?_cons_succ, List.getElem?_cons_zero]); rfl) (by kernel_rfl) (by kernel_rfl) (by kernel_rfl) (by exact fun _ _ _ h => h) (Or.inl ⟨by rfl, ?_⟩) (by assumption) ?_; rotate_left; focus ((intro w hSw; (try dsimp only at hSw); go_simp) <;> with_reducible rfl); (try simp only [Act.put, List.getElem_toArray, List.getElem_cons_succ, List.getElem_cons_zero, List.setIfInBounds_toArray, List.set_cons_zero, List.set_cons_succ]))
    (refine wpAnyH_take (i := 2) (oi := _) (v := ?_) (by (simp only [List.getElem?_toArray, List.getElem?_cons_succ, List.getElem?_cons_zero]); rfl) (by kernel_rfl) (by kernel_rfl) (by kernel_rfl) (by exact fun _ _ _ h => h) (Or.inl ⟨by rfl, ?_⟩) (by assumption) ?_; rotate_left; focus ((intro w hSw; (try dsimp only at hSw); go_simp) <;> with_reducible rfl); (try simp only [Act.put, List.getElem_toArray, List.getElem_cons_succ, List.getElem_cons_zero, List.setIfInBounds_toArray, List.set_cons_zero, List.set_cons_succ]))
    (refine wpAnyH_take (i := 3) (oi := _) (v := ?_) (by (simp only [List.getElem?_toArray, List.getElem?_cons_succ, List.getElem?_cons_zero]); rfl) (by kernel_rfl) (by kernel_rfl) (by kernel_rfl) (by exact fun _ _ _ h => h) (Or.inl ⟨by rfl, ?_⟩) (by assumption) ?_; rotate_left; focus ((intro w hSw; (try dsimp only at hSw); go_simp) <;> with_reducible rfl); (try simp only [Act.put, List.getElem_toArray, List.getElem_cons_succ, List.getElem_cons_zero, List.setIfInBounds_toArray, List.set_cons_zero, List.set_cons_succ]))
    (refine wpAnyH_take (i := 4) (oi := _) (v := ?_) (by (simp only [List.getElem?_toArray, List.getElem?_cons_succ, List.getElem?_cons_zero]); rfl) (by kernel_rfl) (by kernel_rfl) (by kernel_rfl) (by exact fun _ _ _ h => h) (Or.inl ⟨by rfl, ?_⟩) (by assumption) ?_; rotate_left; focus ((intro w hSw; (try dsimp only at hSw); go_simp) <;> with_reducible rfl); (try simp only [Act.put, List.getElem_toArray, List.getElem_cons_succ, List.getElem_cons_zero, List.setIfInBounds_toArray, List.set_cons_zero, List.set_cons_succ]))
    (refine wpAnyH_take (i := 5) (oi := _) (v := ?_) (by (simp only [List.getElem?_toArray, List.getElem?_cons_succ, List.getElem?_cons_zero]); rfl) (by kernel_rfl) (by kernel_rfl) (by kernel_rfl) (by exact fun _ _ _ h => h) (Or.inl ⟨by rfl, ?_⟩) (by assumption) ?_; rotate_left; focus ((intro w hSw; (try dsimp only at hSw); go_simp) <;> with_reducible rfl); (try simp only [Act.put, List.getElem_toArray, List.getElem_cons_succ, List.getElem_cons_zero, List.setIfInBounds_toArray, List.set_cons_zero, List.set_cons_succ]))
    (refine wpAnyH_take (i := 6) (oi := _) (v := ?_) (by (simp only [List.getElem?_toArray, List.getElem?_cons_succ, List.getElem?_cons_zero]); rfl) (by kernel_rfl) (by kernel_rfl) (by kernel_rfl) (by exact fun _ _ _ h => h) (Or.inl ⟨by rfl, ?_⟩) (by assumption) ?_; rotate_left; focus ((intro w hSw; (try dsimp only at hSw); go_simp) <;> with_reducible rfl); (try simp only [Act.put, List.getElem_toArray, List.getElem_cons_succ, List.getElem_cons_zero, List.setIfInBounds_toArray, List.set_cons_zero, List.set_cons_succ]))
    (try simp only [Act.put, List.setIfInBounds_toArray, List.set_cons_zero, List.set_cons_succ])
    refine wpAnyH_ready (rs := [7]) (by kernel_rfl) (by simp) ?_
    refine AllReadyH.cons rfl ?_ AllReadyH.nil
    intro KQ hKQ
    refine step_plain rfl ?_
    go_simp
    refine (clone8_any A lb c (u8s b) _ (by exact HBF.out) ?_ ?_).mono ?_
    exact hn8
    exact HO3.out
    rintro e w3 ⟨⟨v, rfl, hv⟩, hk⟩
    obtain ⟨Av, cv, rfl⟩ := own_shape hv
    have bA := hk.heap (by exact B1.out) trivial
    have bB := hk.heap (by exact B2.out) trivial
    have bC := hk.heap (by exact B3.out) trivial
    have bD := hk.heap (by exact B4.out) trivial
    have bE := hk.heap (by exact B5.out) trivial
    have cA := blk_cell bA
    have cC := blk_cell bC
    have cD := blk_cell bD
    have cE := blk_cell bE
    have fA := blk_free bA
    have sA := blk_lt bA
    have sC := blk_lt bC
    have sD := blk_lt bD
    have sE := blk_lt bE
    have cA2 := fun o => blk_cell (blk_alloc bA o)
    have cC2 := fun o => blk_cell (blk_alloc bC o)
    have cD2 := fun o => blk_cell (blk_alloc bD o)
    have cE2 := fun o => blk_cell (blk_alloc bE o)
    unfold dcs at cA cA2
    have hrow3 := fun o => own_kept HROW.out (((hK2.out.drew).trans hk.all).alloc o) hne
    have HV := hid hv
    have HK := hid hk
    have BA1 := hid bA
    have BB1 := hid bB
    have BC1 := hid bC
    have BD1 := hid bD
    have BE1 := hid bE
    clear hv hk bA bB bC bD bE
    refine hKQ.out _ _ ⟨cA, cC, cD, cE⟩ (fun hHeld2 => ?_)
    clear hKQ KQ
    (refine wpAnyH_take (i := 8) (oi := _) (v := ?_) (by (simp only [List.getElem?_toArray, List.getElem?_cons_succ, List.getElem?_cons_zero]); rfl) (by kernel_rfl) (by kernel_rfl) (by kernel_rfl) (by exact fun _ _ _ h => h) (Or.inl ⟨by rfl, ?_⟩) (by assumption) ?_; rotate_left; focus ((intro w hSw; (try dsimp only at hSw); go_simp) <;> with_reducible rfl); (try simp only [Act.put, List.getElem_toArray, List.getElem_cons_succ, List.getElem_cons_zero, List.setIfInBounds_toArray, List.set_cons_zero, List.set_cons_succ]))
    (try simp only [Act.put, List.setIfInBounds_toArray, List.set_cons_zero, List.set_cons_succ])
    refine wpAnyH_ready (rs := [9]) (by kernel_rfl) (by simp) ?_
    refine AllReadyH.cons rfl ?_ AllReadyH.nil
    intro KQ hKQ
    refine step_plain rfl ?_
    go_simp
    refine hKQ.out _ _ ⟨cA2 _, cC2 _, cD2 _, cE2 _⟩ (fun hHeld3 => ?_)
    clear hKQ KQ
    (try simp only [Act.put, List.setIfInBounds_toArray, List.set_cons_zero, List.set_cons_succ])
    refine wpAnyH_ready (rs := [10]) (by kernel_rfl) (by simp) ?_
    refine AllReadyH.cons rfl ?_ AllReadyH.nil
    intro KQ hKQ
    refine step_plain rfl (wp_app elw (hrow3 _) (sl_one w3 (.pointer (some ⟨f, 0, none⟩)) (.slice Av lb cv) 67) (two_one _ _ _ _) hL32 (Nat.zero_le _) _ _ rfl rfl rfl ?_)
    intro v' w4 hown4 hg4 hob4 hnil4
    obtain ⟨A4, e4, rfl⟩ := own_shape hown4
    have kg4 := Kp.grown hg4
    have bA := kg4.heap (blk_alloc BA1.out _) hnp
    have bB := kg4.heap (blk_alloc BB1.out _) hnf
    have bC := kg4.heap (blk_alloc BC1.out _) hn3
    have bD := kg4.heap (blk_alloc BD1.out _) hn4
    have bE := kg4.heap (blk_alloc BE1.out _) hn5
    have cA4 := blk_cell bA
    have cC3 := blk_cell bC
    have cD3 := blk_cell bD
    have cE3 := blk_cell bE
    have fA4 := blk_free bA
    unfold dcs at cA4
    have HG4 := hid kg4
    have HO4 := hid hob4
    have HW4 := hid hown4
    have BA4 := hid bA
    have BB4 := hid bB
    clear hown4 hg4 hob4 hnil4 kg4 bA bB bC bD bE
    refine hKQ.out _ _ ⟨cA4, cC3, cD3, cE3⟩ (fun hHeld4 => ?_)
    clear hKQ KQ
    (refine wpAnyH_take (i := 11) (oi := _) (v := ?_) (by (simp only [List.getElem?_toArray, List.getElem?_cons_succ, List.getElem?_cons_zero]); rfl) (by kernel_rfl) (by kernel_rfl) (by kernel_rfl) (by exact fun _ _ _ h => h) (Or.inl ⟨by rfl, ?_⟩) (by assumption) ?_; rotate_left; focus ((intro w hSw; (try dsimp only at hSw); go_simp) <;> with_reducible rfl); (try simp only [Act.put, List.getElem_toArray, List.getElem_cons_succ, List.getElem_cons_zero, List.setIfInBounds_toArray, List.set_cons_zero, List.set_cons_succ]))
    (refine wpAnyH_take (i := 12) (oi := _) (v := ?_) (by (simp only [List.getElem?_toArray, List.getElem?_cons_succ, List.getElem?_cons_zero]); rfl) (by kernel_rfl) (by kernel_rfl) (by kernel_rfl) (by exact fun _ _ _ h => h) (Or.inl ⟨by rfl, ?_⟩) (by assumption) ?_; rotate_left; focus ((intro w hSw; (try dsimp only at hSw); go_simp) <;> with_reducible rfl); (try simp only [Act.put, List.getElem_toArray, List.getElem_cons_succ, List.getElem_cons_zero, List.setIfInBounds_toArray, List.set_cons_zero, List.set_cons_succ]))
    (try simp only [Act.put, List.setIfInBounds_toArray, List.set_cons_zero, List.set_cons_succ])
    refine wpAnyH_done (by kernel_rfl) ?_ _
    unfold RegionLast.LastQ
    dsimp only
    all_goals (go_wp2_with fail)
    all_goals (
      go_ret
      unfold AppPost
      rw [if_neg (Int.not_lt.2 hg.out)]
      refine ⟨rfl, ?_⟩
      have hu2 := HU.out
      have hsz2 : w.heap.size ≤ w2.heap.size := hK2.out.size
      have hsz3 : w2.heap.size ≤ w3.heap.size := HK.out.size
      have hBA : ∀ z, (Value.slice BA L bc).ownBlock = some z → z < w.heap.size := fun z hz => H.out.lt z (by rw [HROLE.out z hz]; simp)
      have hkp : Kp (fun z => z ≠ p ∧ z ≠ f ∧ some z ≠ (Value.slice BA L bc).ownBlock) w (w4.setCell ⟨p, 3, none⟩ (.slice A4 (L + 1) e4)) :=
        (((((hK2.out.mono fun z _ hz => ⟨hz.1, hz.2.1⟩).drew.trans HK.out.all).alloc _).trans (HG4.out.mono fun z _ hz => hz.2.2)).setOut (by simp) _)
      have hdv : (w4.setCell ⟨p, 3, none⟩ (.slice A4 (L + 1) e4)).ownsRow 0 5 1 (.slice Av lb cv) lb (u8s b) := by
        refine own_kept (World.ownsRow.mono HV.out (Nat.zero_le _)) ((((Kp.refl (fun z => z ≠ p ∧ some z ≠ (Value.slice BA L bc).ownBlock) w3).alloc (.cells #[.pointer (some ⟨f, 0, none⟩), .slice Av lb cv] 67)).trans (HG4.out.mono fun z _ hz => hz.2)).setOut (by simp) _) fun z hz => ?_
        have h1 : w2.heap.size ≤ z := (HV.out.lt z hz).1
        exact ⟨(by have := blk_lt H.out.cell; omega), (fun e => by have := hBA z e.symm; omega)⟩
      have hro4 := own_kept HW4.out (w' := w4.setCell ⟨p, 3, none⟩ (.slice A4 (L + 1) e4)) ((Kp.refl (fun z => z ≠ p) w4).setOut (by simp) _) (fun z hz e => by
        rcases HO4.out with h1 | h1
        · rw [h1] at hz; exact (hne z hz).1 e
        · rw [h1] at hz; injection hz with hz; have := blk_lt H.out.cell; simp at hz; omega)
      refine H.out.pushed (sv := .slice SA ls sc) (dv := .slice Av lb cv) (N := w3.heap.size + 1) (v4 := .slice A4 (L + 1) e4) HS.out (by rw [HLS.out]; exact q2) (by rw [HF.out]; exact q3) ?_ ?_ ?_ ?_ (by omega) (by rw [HL.out]; exact hdv) ?_ ?_ ?_
      · have := blk_set BA4.out 3 (.slice A4 (L + 1) e4)
        rw [this]
        congr 2
        rw [show ((usedOf D.F (D.B ++ [(n, b)]) : Nat) : Int) = (u : Int) + ((needs (ls + mo + lb) : Int) - (needs (ls + mo) : Int)) from by omega]
        rfl
      · rw [HF.out, HMO.out, HL.out]
        exact blk_far BB4.out hpf _
      · rw [HF.out, HLL.out]
        exact hro4
      · rw [HLL.out]
        rcases HO4.out with h1 | h1
        · exact .inl h1
        · exact .inr (by rw [h1]; simp)
      · intro z hz
        have h1 := HV.out.lt z hz
        have h2 : w2.heap.size ≤ z := h1.1
        refine ⟨by omega, fun e => ?_⟩
        rcases HO4.out with h3 | h3
        · rw [h3] at e; have := hBA z e; omega
        · rw [h3] at e; injection e with e; simp at e; omega
      · rw [HF.out, HLL.out]
        exact hkp
      · omega)
end Go.Proofs.Ytdlbccjimdghkaa
