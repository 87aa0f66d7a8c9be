/- The map's full slots walked. No condition but that the map lies. The map's rehash walked. No condition but that the map lies and is sound, that the numbers are of their kinds, and where the table of shifts lies. The map's Put walked. No condition but that the map lies and is sound, and where the table of shifts lies. -/
import Derived.Test.YtodledidabdkaaaGreatDoorM5
set_option linter.unusedVariables false
set_option linter.unusedSimpArgs false
namespace Go.Proofs.YtodledidabdkaaaGreatDoor
open Go.RowKit Go.Shelf V
set_option linter.unusedVariables false
set_option linter.unusedSimpArgs false
def fullAt (M : Mp) (q : Nat) (L : List Nat) : List Slot := L.map fun i => M.slots.getD (8 * q + i) zslot
def fullG (M : Mp) (n : Nat) : List Slot := (List.range n).flatMap fun q => fullAt M q (els (bitsOf (fun b => decide (b < 128)) (grp M.ctrl q)))
theorem fullG_succ (M : Mp) (n : Nat) : fullG M (n + 1) = fullG M n ++ fullAt M n (els (bitsOf (fun b => decide (b < 128)) (grp M.ctrl n))) := by
  unfold fullG
  rw [List.range_succ, List.flatMap_append, List.flatMap_cons, List.flatMap_nil, List.append_nil]
theorem range8 : ∀ n : Nat, List.range (8 * n) = (List.range n).flatMap fun q => (List.range 8).map (8 * q + ·)
  | 0 => rfl
  | n + 1 => by
    rw [show List.range (n + 1) = List.range n ++ [n] from List.range_succ, List.flatMap_append, ← range8 n, List.flatMap_cons, List.flatMap_nil, List.append_nil, show 8 * (n + 1) = 8 * n + 8 from by omega, List.range_add]
theorem fm_congr {α β : Type} {f g : α → Option β} : ∀ {l : List α}, (∀ x ∈ l, f x = g x) → l.filterMap f = l.filterMap g
  | [], _ => rfl
  | x :: l, h => by
    rw [List.filterMap_cons, List.filterMap_cons, h x (List.mem_cons_self ..), fm_congr (fun y hy => h y (List.mem_cons_of_mem _ hy))]
theorem fullG_all {M : Mp} (hl : M.ctrl.length = 8 * M.g) (hs : M.slots.length = 8 * M.g) : fullG M M.g = fullP M := by
  unfold fullP fullG fullAt
  rw [hl, range8, List.filterMap_flatMap]
  have h : ∀ (L : List Nat), (∀ q ∈ L, q < M.g) → (L.flatMap fun q => (els (bitsOf (fun b => decide (b < 128)) (grp M.ctrl q))).map fun i => M.slots.getD (8 * q + i) zslot) = L.flatMap fun q => ((List.range 8).map (8 * q + ·)).filterMap fun i => if M.ctrl.getD i 128 < 128 then M.slots[i]? else none := by
    intro L
    induction L with
    | nil => intro _; rfl
    | cons q r ih =>
      intro hq
      rw [List.flatMap_cons, List.flatMap_cons, ih (fun x hx => hq x (List.mem_cons_of_mem _ hx))]
      congr 1
      have hqg := hq q (List.mem_cons_self ..)
      rw [els_bits, List.filterMap_map, ← List.filterMap_eq_map, List.filterMap_filter]
      refine fm_congr fun i hi => ?_
      have hi8 := List.mem_range.1 hi
      simp only [Function.comp]
      rw [grp_get hi8]
      have hlt : 8 * q + i < M.ctrl.length := by omega
      have hls : 8 * q + i < M.slots.length := by omega
      rw [List.getElem?_eq_getElem hlt, getD_of (List.getElem?_eq_getElem hlt), List.getElem?_eq_getElem hls, getD_of (List.getElem?_eq_getElem hls)]
      simp
  exact h _ fun q hq => List.mem_range.1 hq
theorem els_len (s : Nat) : (els s).length ≤ 8 := by
  unfold els
  exact Nat.le_trans (List.length_filter_le _ _) (by simp)
theorem fullG_len (M : Mp) : ∀ n, (fullG M n).length ≤ 8 * n
  | 0 => Nat.zero_le _
  | n + 1 => by
    have h1 := fullG_len M n
    have h2 := els_len (bitsOf (fun b => decide (b < 128)) (grp M.ctrl n))
    rw [fullG_succ, List.length_append, fullAt, List.length_map]
    omega
theorem fullAt_cons (M : Mp) (q i : Nat) (r : List Nat) : fullAt M q (i :: r) = M.slots.getD (8 * q + i) zslot :: fullAt M q r := rfl
theorem scs_append (a b : List Slot) : scs (a ++ b) = scs a ++ scs b := by simp [scs]
theorem sl_new2 {w : World} {m : Nat} (hm : m = w.heap.size) (s : Slot) (t : TypeId) : Sl (some ⟨m, 0, none⟩) 1 1 2 [.string s.1, .string s.2] (w.alloc (.cells #[.string s.1, .string s.2] t)) := by
  subst hm
  refine ⟨rfl, Nat.le_refl _, fun _ => ⟨_, 0, rfl, fun j u hj => ?_⟩⟩
  rw [Nat.zero_add, blk_cell (blk_new w _)]
  simpa using hj
theorem two_one (s : Slot) : ∀ u ∈ [Value.string s.1, Value.string s.2], u.oneCell' = true := by
  intro u hu
  simp at hu
  rcases hu with rfl | rfl <;> rfl
/-- The slots are answered, all else kept. -/
def SlotsR (l : List Slot) (w : World) (e : Ending) (w' : World) : Prop := ∃ v, e = .returned v ∧ w'.ownsRow w.heap.size 70 2 v l.length (scs l) ∧ Kp All w w'
set_option maxRecDepth 100000 in
set_option maxHeartbeats 2000000 in
theorem mfull_any (k0 k1 bm bw cw bs cs : Nat) (M : Mp) (hP : Pm M) (w : World) (h : Ms k0 k1 bm bw cw bs cs M w) : Calls Tryz.prog 70 #[.pointer (some ⟨bm, 0, none⟩)] w (SlotsR (fullP M) w) := by
  rw [← fullG_all hP.len hP.slen]
  have HM := hid h; have HP := hid hP
  have c0 := blk_cell h.str
  have hg1 := hP.g1
  have HR0 := hid (World.ownsRow_nil w w.heap.size 70 2)
  clear h
  go_enter Tryz.func70, Tryz.ntmps70
  go_wp2_with fail
  go_loopw [3, 12] (fun l i wr => ∃ q : Nat, q ≤ M.g ∧ i = .int .i64 q ∧ Hid (wr.ownsRow w.heap.size 70 2 l (fullG M q).length (scs (fullG M q))) ∧ Hid (Kp All w wr)) (fun _ i _ => M.g - (ivl i).toNat)
  case atStart => exact ⟨0, Nat.zero_le _, rfl, HR0, hid (Kp.refl _ _)⟩
  case round =>
    obtain ⟨q, hq, rfl, HR, HK⟩ := hrel
    by_cases hlt : q < M.g
    · have d1 : decide ((q : Int) < (M.g : Int)) = true := decide_eq_true (by omega)
      have hMr := HM.out.all HK.out
      have hwd := hMr.word rfl hlt
      have j0 : (0 : Int) ≤ (q : Int) := by omega
      have j1 : (q : Int) < (M.g : Int) := by omega
      have HFu := hid (fun w => gfull_any (grp M.ctrl q) (HP.out.gb q) (HP.out.g8 hlt) w)
      have hS0 := bits_lt (fun b => decide (b < 128)) (grp M.ctrl q)
      rw [HP.out.g8 hlt] at hS0
      have HSU := hid (fullG_succ M q)
      obtain ⟨S0, hS⟩ : ∃ S0, bitsOf (fun b => decide (b < 128)) (grp M.ctrl q) = S0 := ⟨_, rfl⟩
      rw [hS] at HFu hS0 HSU
      obtain ⟨wq, hwq⟩ : ∃ wq, wd (grp M.ctrl q) = wq := ⟨_, rfl⟩
      rw [hwq] at HFu hwd
      clear hS hwq hMr
      go_wp2_with fail
      refine (HFu.out _).mono ?_
      rintro e w1 ⟨rfl, hw⟩
      have hw := hw.symm
      subst hw
      go_wp2_with fail
      have HL1 := hid (show (fullG M (q + 1)).length ≤ 8 * (q + 1) from fullG_len M (q + 1))
      go_loopw [3, 6] (fun l v wr => ∃ (st : Nat) (pre : List Slot), v = .int .u8 st ∧ st < 256 ∧ Hid (pre ++ fullAt M q (els st) = fullG M (q + 1)) ∧ Hid (wr.ownsRow w.heap.size 70 2 l pre.length (scs pre)) ∧ Hid (Kp All w wr)) (fun _ v _ => (els (ivl v).toNat).length)
      case atStart => exact ⟨S0, fullG M q, rfl, hS0, hid HSU.out.symm, HR, HK⟩
      case round =>
        obtain ⟨st, pre, rfl, hst, hpre, hrow, hkr⟩ := hrel
        by_cases hz : st = 0
        · have d2 : ((st : Int) != 0) = false := by rw [hz]; rfl
          have hfin : pre = fullG M (q + 1) := by
            have := hpre.out
            rwa [hz, els_zero, fullAt, List.map_nil, List.append_nil] at this
          subst hfin
          go_wp2_with fail
          exact ⟨⟨q + 1, hlt, by go_num, hrow, hkr⟩, by simp [ivl]; omega⟩
        · have d2 : ((st : Int) != 0) = true := by simp; omega
          obtain ⟨i, hi, hi8⟩ := els_next ⟨st, hst⟩ hz
          simp only at hi
          have hMr := HM.out.all hkr.out
          have hcr := blk_cell hMr.str
          have hjg : 8 * q + i < 8 * M.g := by omega
          obtain ⟨s1, s2⟩ := hMr.slot HP.out.slen hjg
          have HF1 := hid (fun w => first_any st i _ hst hi w)
          have HN1 := hid (fun w => next_any st i _ hst hi w)
          obtain ⟨jj, hjj⟩ : ∃ jj, 8 * q + i = jj := ⟨_, rfl⟩
          rw [hjj] at s1 s2 hjg
          obtain ⟨sv, hsv⟩ : ∃ sv, M.slots.getD jj zslot = sv := ⟨_, rfl⟩
          rw [hsv] at s1 s2
          have HPR : Hid ((pre ++ [sv]) ++ fullAt M q (els (st &&& (st - 1))) = fullG M (q + 1)) := hid (by
            rw [← hpre.out, hi, fullAt_cons, hjj, hsv]; simp)
          have hjI : 8 * (q : Int) + (i : Int) = (jj : Int) := by omega
          have g0 : (0 : Int) ≤ (jj : Int) := by omega
          have g1 : (jj : Int) < 8 * (M.g : Int) := by omega
          have hw1 : IntKind.i64.wrap (8 * (q : Int)) = 8 * (q : Int) := IntWalk.i64_in _ (by omega)
          have hw3 : IntKind.i64.wrap (jj : Int) = (jj : Int) := IntWalk.i64_in _ (by omega)
          have hw2 : IntKind.i64.wrap (8 * (q : Int) + (i : Int)) = (jj : Int) := by rw [hjI]; exact hw3
          have HLP : Hid (pre.length ≤ 8192) := hid (by
            have h1 := congrArg List.length HPR.out
            have h2 := HL1.out
            simp only [List.length_append] at h1
            omega)
          have HEL := hid hi
          have hsz := hkr.out.size
          clear hjj hsv hpre hi hMr
          go_wp2_with fail
          obtain ⟨VA, vc, rfl⟩ := own_shape hrow.out
          go_region_law (first | (refine step_plain rfl ?_; go_simp; refine (HF1.out _).mono ?_; rintro e w5 ⟨rfl, rfl⟩; dsimp only) | (refine step_plain rfl (wp_app els2 (World.ownsRow.alloc (World.ownsRow.drew hrow.out) _) (sl_new2 rfl sv 70) (two_one sv) ?_ ?_ _ _ rfl rfl rfl ?_); (have := HLP.out; omega); (simp; omega); intro v' w6 hown6 hg6 hob6 hnil6; dsimp only))
          all_goals
            obtain ⟨A6, c6, rfl⟩ := own_shape hown6
            have hk6 : Kp All w w6 := (hkr.out.drew.alloc _).then (Kp.grown hg6) (fun b hb _ e => by have := (hrow.out.lt b e.symm).1; omega)
            have ho6 : w6.ownsRow w.heap.size 70 2 (.slice A6 (pre.length + 1) c6) (pre ++ [sv]).length (scs (pre ++ [sv])) := by
              rw [scs_append, List.length_append]
              exact hown6
            have HO6 := hid ho6; have HK6 := hid hk6
            clear hown6 hg6 hob6 hnil6 ho6 hk6
            simp only [Act.put, List.setIfInBounds_toArray, List.set_cons_zero, List.set_cons_succ]
            go_wp2_with fail
            refine (HN1.out _).mono ?_
            rintro e w7 ⟨s', rfl, hs', he', hw7⟩
            have hw7 := hw7.symm
            subst hw7
            have HE' := hid he'
            clear he'
            go_wp2_with fail
            refine ⟨⟨s', pre ++ [sv], rfl, hs', hid (by rw [HE'.out]; exact HPR.out), HO6, HK6⟩, ?_⟩
            simp only [ivl, Int.toNat_natCast]
            rw [HE'.out, HEL.out]
            simp
    · have d1 : decide ((q : Int) < (M.g : Int)) = false := decide_eq_false (by omega)
      obtain rfl : q = M.g := by omega
      go_wp2_with fail
      go_ret
      exact ⟨_, rfl, HR.out, HK.out⟩
end Go.Proofs.YtodledidabdkaaaGreatDoor

namespace Go.Proofs.YtodledidabdkaaaGreatDoor
open Go.RowKit Go.Shelf V
set_option linter.unusedVariables false
set_option linter.unusedSimpArgs false
/-- the maps on the way -/
def layN (H : Tx → Nat) (M : Mp) (l : List Slot) (j : Nat) : Mp := (l.take j).foldl (layP H) M
theorem layN_succ {H : Tx → Nat} {M : Mp} {l : List Slot} {j : Nat} {s : Slot} (h : l[j]? = some s) : layN H M l (j + 1) = layP H (layN H M l j) s := by
  unfold layN
  rw [List.take_add_one, h, List.foldl_append]
  rfl
theorem layN_inv {H : Tx → Nat} {M : Mp} (hI : Inv H M) (hfull : 7 * M.g ≤ M.cnt + M.tmb) (hm : M.cnt < 2000) (j : Nat) (hj : j ≤ (fullP M).length) :
    Inv H (layN H (madeP (newG M)) (fullP M) j) ∧ (layN H (madeP (newG M)) (fullP M) j).cnt = j ∧ (layN H (madeP (newG M)) (fullP M) j).tmb = 0 := by
  obtain ⟨⟨k, hk, e⟩, h7⟩ := newG_pow hI hfull hm
  rw [e] at h7
  obtain ⟨m1, m2, m3, m4, m5⟩ := made_inv H hk
  have hl := full_len hI.slen
  have hlt : ((fullP M).take j).length = j := by rw [List.length_take]; omega
  obtain ⟨g1, _, g3, g4, _⟩ := lays_inv ((fullP M).take j) (madeP (2 ^ k)) m1 ((full_nodup hI).sublist (List.take_sublist _ _)) (fun s _ v' => m5 _ _) m4 (by rw [m2]; omega) (by omega)
  unfold layN
  rw [e]
  exact ⟨g1, by omega, g4⟩
theorem layN_all (H : Tx → Nat) (M : Mp) : layN H (madeP (newG M)) (fullP M) (fullP M).length = rehashP H M := by
  unfold layN rehashP
  rw [List.take_length]
/-- the struct copied -/
theorem Mr.copy {k0 k1 bm bx bw cw bs cs g : Nat} {c : List Nat} {l : List Slot} {n t : Int} {w : World} {o0 o1 o2 o3 o4 o5 : Value} (h : Mr k0 k1 bx bw cw bs cs g c l n t w) (hb : w.heap[bm]? = some (.cells #[o0, o1, o2, o3, o4, o5] 73 (0, 0))) (d1 : bm ≠ bw) (d2 : bm ≠ bs) (z : bm ≠ 0) :
    Mr k0 k1 bm bw cw bs cs g c l n t ((((((w.setCell ⟨bm, 0, none⟩ (.int .u64 k0)).setCell ⟨bm, 1, none⟩ (.int .u64 k1)).setCell ⟨bm, 2, none⟩ (.slice (some ⟨bw, 0, none⟩) g cw)).setCell ⟨bm, 3, none⟩ (.slice (some ⟨bs, 0, none⟩) (8 * g) cs)).setCell ⟨bm, 4, none⟩ (.int .i64 n)).setCell ⟨bm, 5, none⟩ (.int .i64 t)) := by
  obtain ⟨c1, e1, e2, e3⟩ := h.wds
  obtain ⟨c2, f1, f2, f3⟩ := h.sls
  have hs := blk_set (blk_set (blk_set (blk_set (blk_set (blk_set hb 0 (.int .u64 k0)) 1 (.int .u64 k1)) 2 (.slice (some ⟨bw, 0, none⟩) g cw)) 3 (.slice (some ⟨bs, 0, none⟩) (8 * g) cs)) 4 (.int .i64 n)) 5 (.int .i64 t)
  have far : ∀ {b : Nat} {o : Obj}, w.heap[b]? = some o → b ≠ bm → ((((((w.setCell ⟨bm, 0, none⟩ (.int .u64 k0)).setCell ⟨bm, 1, none⟩ (.int .u64 k1)).setCell ⟨bm, 2, none⟩ (.slice (some ⟨bw, 0, none⟩) g cw)).setCell ⟨bm, 3, none⟩ (.slice (some ⟨bs, 0, none⟩) (8 * g) cs)).setCell ⟨bm, 4, none⟩ (.int .i64 n)).setCell ⟨bm, 5, none⟩ (.int .i64 t)).heap[b]? = some o := fun h hne => blk_far (blk_far (blk_far (blk_far (blk_far (blk_far h hne _) hne _) hne _) hne _) hne _) hne _
  exact ⟨hs, ⟨c1, far e1 (Ne.symm d1), e2, e3⟩, ⟨c2, far f1 (Ne.symm d2), f2, f3⟩, h.cwl, h.csl, h.cwm, h.csm, d1, d2, h.d3, z, h.z2, h.z3⟩
/-- The map lies anew, its struct in the same block. -/
def Anew (k0 k1 bm : Nat) (M : Mp) (w : World) (w' : World) : Prop := ∃ bw cw bs cs, Ms k0 k1 bm bw cw bs cs M w' ∧ (∀ b, b < w.heap.size → b ≠ bm → b ≠ bw ∧ b ≠ bs) ∧ Kp (fun b => b ≠ bm) w w'
set_option maxRecDepth 100000 in
set_option maxHeartbeats 2000000 in
theorem rehash_any (k0 k1 bm bw cw bs cs : Nat) (M : Mp) (h0 : k0 < 18446744073709551616) (h1 : k1 < 18446744073709551616) (hI : Inv (sipP k0 k1) M) (hfull : 7 * M.g ≤ M.cnt + M.tmb) (hm : M.cnt < 2000) (hkeys : ∀ s ∈ fullP M, s.1.size ≤ 9000000000000000000) (w : World) (hgs : Gs w) (h : Ms k0 k1 bm bw cw bs cs M w) :
    Calls Tryz.prog 35 #[.pointer (some ⟨bm, 0, none⟩)] w fun e w' => e = .returned (.tuple #[]) ∧ Anew k0 k1 bm (rehashP (sipP k0 k1) M) w w' := by
  have HM := hid h; have HI := hid hI; have HGS := hid hgs; have HKY := hid hkeys
  have hP := hI.pm
  have HP := hid hP
  have hg1 := hP.g1
  have c0 := blk_cell h.str
  have hng := newG_pow hI hfull hm
  have HLI := hid (layN_inv hI hfull hm)
  have HFL := hid (full_len hI.slen)
  have htb : M.tmb ≤ 100000 := by have := hI.room; omega
  obtain ⟨G, hG⟩ : ∃ G, newG M = G := ⟨_, rfl⟩
  rw [hG] at hng HLI
  have HNG := hid hng
  have HAL := hid (layN_all (sipP k0 k1) M)
  rw [hG] at HAL
  have hG1 : 1 ≤ G ∧ G ≤ 1024 := by
    obtain ⟨⟨k, hk, e⟩, _⟩ := hng
    obtain ⟨p1, p2, _⟩ := pow_good ⟨k, by omega⟩
    simp only [← e] at p1 p2
    exact ⟨p1, p2⟩
  have hcase : (M.tmb = 0 ∧ M.g * 2 = G) ∨ (M.tmb ≠ 0 ∧ 7 * M.g < 2 * M.cnt ∧ M.g * 2 = G) ∨ (M.tmb ≠ 0 ∧ ¬ 7 * M.g < 2 * M.cnt ∧ M.g = G) := by
    unfold newG at hG
    by_cases a : M.tmb = 0
    · rw [if_pos (.inl a)] at hG; exact .inl ⟨a, hG⟩
    · by_cases b : 7 * M.g < 2 * M.cnt
      · rw [if_pos (.inr b)] at hG; exact .inr (.inl ⟨a, b, hG⟩)
      · rw [if_neg (fun x => x.elim a b)] at hG; exact .inr (.inr ⟨a, b, hG⟩)
  have HMADE := hid (fun w hg => made0_any k0 k1 G hG1.1 hG1.2 w hg)
  have HFULL := hid (fun w hm => mfull_any k0 k1 bm bw cw bs cs M hP w hm)
  clear h hI hgs hkeys hng hG hfull
  rcases hcase with ⟨a, hGe⟩ | ⟨a, b, hGe⟩ | ⟨a, b, hGe⟩
  · have d1 : ((M.tmb : Int) == 0) = true := by rw [a]; rfl
    have hGI : (M.g : Int) * 2 = (G : Int) := by omega
    go_enter Tryz.func35, Tryz.ntmps35
    go_wp2_with fail
    refine (HMADE.out _ HGS.out).mono ?_
    rintro e w1 ⟨bx, bw', cw', bs', cs', rfl, z1, z2, z3, hX, hK1⟩
    have HX1 := hid hX; have HK1 := hid hK1
    have hM1 := HM.out.all hK1
    clear hX hK1
    go_wp2_with fail
    refine (HFULL.out _ hM1).mono ?_
    rintro e w2 ⟨v, rfl, hown, hK2⟩
    obtain ⟨VA, vc, rfl⟩ := own_shape hown
    have HOW := hid hown; have HK2 := hid (HK1.out.trans hK2)
    have HX2 := hid (HX1.out.all hK2)
    have zx : bx < w2.heap.size := blk_lt HX2.out.str
    have zw : bw' < w1.heap.size := by obtain ⟨_, e, _⟩ := HX1.out.wds; exact blk_lt e
    have zs : bs' < w1.heap.size := by obtain ⟨_, e, _⟩ := HX1.out.sls; exact blk_lt e
    have zx1 : bx < w1.heap.size := blk_lt HX1.out.str
    have zm : bm < w.heap.size := blk_lt HM.out.str
    have hK2s := hK2.size
    obtain ⟨N, hN⟩ : ∃ N, (fullP M).length = N := ⟨_, rfl⟩
    rw [hN] at HLI HAL HFL HOW
    have hN2 : N ≤ 2000 := by have := HFL.out; omega
    have HNE := hid hN
    rw [hN]
    clear hown hK2 hM1 hN
    go_wp2_with fail
    go_loopw [37] (fun i wr => ∃ j : Nat, j ≤ N ∧ i = .int .i64 j ∧ Hid (Ms k0 k1 bx bw' cw' bs' cs' (layN (sipP k0 k1) (madeP G) (fullP M) j) wr) ∧ Hid (Kp (fun b => b ≠ bx ∧ b ≠ bw' ∧ b ≠ bs') w2 wr)) (fun i _ => N - (ivl i).toNat)
    case atStart => exact ⟨0, Nat.zero_le _, rfl, HX2, hid (Kp.refl _ _)⟩
    case round =>
      obtain ⟨j, hj, rfl, hX, hK⟩ := hrel
      by_cases hlt : j < N
      · have d9 : decide ((j : Int) < (N : Int)) = true := decide_eq_true (by omega)
        obtain ⟨s, hs⟩ : ∃ s, (fullP M)[j]? = some s := ⟨_, List.getElem?_eq_getElem (by rw [HNE.out]; exact hlt)⟩
        obtain ⟨i1, i2, i3⟩ := HLI.out j (by omega)
        rcases own_at HOW.out with ⟨e, _, _⟩ | ⟨gb, cap, cur, e, hgb, hgw, hat⟩
        · injection e with _ e _; omega
        injection e with e _ ec
        subst e ec
        obtain ⟨t1, t2⟩ := scs_get hs
        have hgne : gb ≠ bx ∧ gb ≠ bw' ∧ gb ≠ bs' := by
          refine ⟨?_, ?_, ?_⟩
          · intro e; rw [e] at hgw; exact absurd hgw (Nat.not_le.2 zx1)
          · intro e; rw [e] at hgw; exact absurd hgw (Nat.not_le.2 zw)
          · intro e; rw [e] at hgw; exact absurd hgw (Nat.not_le.2 zs)
        have r1 := hK.out.cell (hat _ _ t1) hgne
        have r2 := hK.out.cell (hat _ _ t2) hgne
        have q0 : (0 : Int) ≤ (j : Int) := by omega
        have q1 : (j : Int) < (N : Int) := by omega
        have hnext := layN_succ (H := sipP k0 k1) (M := madeP G) hs
        have hsk := HKY.out s (List.mem_of_getElem? hs)
        obtain ⟨s1, s2⟩ := s
        simp only at r1 r2 hsk
        have hfr : layL (layN (sipP k0 k1) (madeP G) (fullP M) j).ctrl (seqP (sipP k0 k1 s1 / 128) (layN (sipP k0 k1) (madeP G) (fullP M) j).g) ≠ none := by
          obtain ⟨_, _, _, _, _, _, _, _, e, _⟩ := lay_at i1 (s1, s2)
          rw [e]
          simp
        have hroom := i1.room
        have HG2 : Hid (Gs wr) := hid (((HGS.out.all HK2.out)).kept hK.out ⟨Ne.symm HX2.out.z1, Ne.symm HX2.out.z2, Ne.symm HX2.out.z3⟩)
        have hgp := i1.pm.g1
        have HLAY := hid (fun W hg hm => lay_any k0 k1 bx bw' cw' bs' cs' (layN (sipP k0 k1) (madeP G) (fullP M) j) i1.pm i1.bytes ⟨by omega, by omega⟩ h0 h1 s1 s2 hsk hfr W hg hm)
        rw [← hnext] at HLAY
        clear hfr hnext i1 i2 i3 hs t1 t2 hat
        go_wp2_with fail
        refine (HLAY.out _ (HG2.out.all (Kp.al _ _)) (hX.out.all (Kp.al _ _))).mono ?_
        rintro e w5 ⟨rfl, hM5, hK5⟩
        have HM5 := hid hM5
        have HK5 := hid (hK.out.trans ((Kp.al _ _).all.trans hK5))
        clear hM5 hK5
        go_wp2_with fail
        exact ⟨⟨j + 1, by omega, by go_num, HM5, HK5⟩, by simp [ivl]; omega⟩
      · have d9 : decide ((j : Int) < (N : Int)) = false := decide_eq_false (by omega)
        obtain rfl : j = N := by omega
        rw [HAL.out] at hX
        have cx := blk_cell hX.out.str
        have hbm := hK.out.heap (HK2.out.heap HM.out.str trivial) (by exact ⟨by omega, by omega, by omega⟩)
        have cm := blk_cell hbm
        have fm := blk_free hbm
        have HBM := hid hbm
        clear hbm
        go_wp2_with fail
        go_end0
        have hk : Kp (fun b => b ≠ bm) w wr := HK2.out.then hK.out (fun i hi _ => ⟨by omega, by omega, by omega⟩) |>.all
        exact ⟨rfl, bw', cw', bs', cs', hX.out.copy HBM.out (by omega) (by omega) HM.out.z1, fun b hb _ => ⟨by omega, by omega⟩, (((((hk.setOut (by simp) _).setOut (by simp) _).setOut (by simp) _).setOut (by simp) _).setOut (by simp) _).setOut (by simp) _⟩
  · have d1 : ((M.tmb : Int) == 0) = false := by simp; omega
    have d2 : decide (7 * (M.g : Int) < 2 * (M.cnt : Int)) = true := decide_eq_true (by omega)
    have hGI : (M.g : Int) * 2 = (G : Int) := by omega
    go_enter Tryz.func35, Tryz.ntmps35
    go_wp2_with fail
    refine (HMADE.out _ HGS.out).mono ?_
    rintro e w1 ⟨bx, bw', cw', bs', cs', rfl, z1, z2, z3, hX, hK1⟩
    have HX1 := hid hX; have HK1 := hid hK1
    have hM1 := HM.out.all hK1
    clear hX hK1
    go_wp2_with fail
    refine (HFULL.out _ hM1).mono ?_
    rintro e w2 ⟨v, rfl, hown, hK2⟩
    obtain ⟨VA, vc, rfl⟩ := own_shape hown
    have HOW := hid hown; have HK2 := hid (HK1.out.trans hK2)
    have HX2 := hid (HX1.out.all hK2)
    have zx : bx < w2.heap.size := blk_lt HX2.out.str
    have zw : bw' < w1.heap.size := by obtain ⟨_, e, _⟩ := HX1.out.wds; exact blk_lt e
    have zs : bs' < w1.heap.size := by obtain ⟨_, e, _⟩ := HX1.out.sls; exact blk_lt e
    have zx1 : bx < w1.heap.size := blk_lt HX1.out.str
    have zm : bm < w.heap.size := blk_lt HM.out.str
    have hK2s := hK2.size
    obtain ⟨N, hN⟩ : ∃ N, (fullP M).length = N := ⟨_, rfl⟩
    rw [hN] at HLI HAL HFL HOW
    have hN2 : N ≤ 2000 := by have := HFL.out; omega
    have HNE := hid hN
    rw [hN]
    clear hown hK2 hM1 hN
    go_wp2_with fail
    go_loopw [37] (fun i wr => ∃ j : Nat, j ≤ N ∧ i = .int .i64 j ∧ Hid (Ms k0 k1 bx bw' cw' bs' cs' (layN (sipP k0 k1) (madeP G) (fullP M) j) wr) ∧ Hid (Kp (fun b => b ≠ bx ∧ b ≠ bw' ∧ b ≠ bs') w2 wr)) (fun i _ => N - (ivl i).toNat)
    case atStart => exact ⟨0, Nat.zero_le _, rfl, HX2, hid (Kp.refl _ _)⟩
    case round =>
      obtain ⟨j, hj, rfl, hX, hK⟩ := hrel
      by_cases hlt : j < N
      · have d9 : decide ((j : Int) < (N : Int)) = true := decide_eq_true (by omega)
        obtain ⟨s, hs⟩ : ∃ s, (fullP M)[j]? = some s := ⟨_, List.getElem?_eq_getElem (by rw [HNE.out]; exact hlt)⟩
        obtain ⟨i1, i2, i3⟩ := HLI.out j (by omega)
        rcases own_at HOW.out with ⟨e, _, _⟩ | ⟨gb, cap, cur, e, hgb, hgw, hat⟩
        · injection e with _ e _; omega
        injection e with e _ ec
        subst e ec
        obtain ⟨t1, t2⟩ := scs_get hs
        have hgne : gb ≠ bx ∧ gb ≠ bw' ∧ gb ≠ bs' := by
          refine ⟨?_, ?_, ?_⟩
          · intro e; rw [e] at hgw; exact absurd hgw (Nat.not_le.2 zx1)
          · intro e; rw [e] at hgw; exact absurd hgw (Nat.not_le.2 zw)
          · intro e; rw [e] at hgw; exact absurd hgw (Nat.not_le.2 zs)
        have r1 := hK.out.cell (hat _ _ t1) hgne
        have r2 := hK.out.cell (hat _ _ t2) hgne
        have q0 : (0 : Int) ≤ (j : Int) := by omega
        have q1 : (j : Int) < (N : Int) := by omega
        have hnext := layN_succ (H := sipP k0 k1) (M := madeP G) hs
        have hsk := HKY.out s (List.mem_of_getElem? hs)
        obtain ⟨s1, s2⟩ := s
        simp only at r1 r2 hsk
        have hfr : layL (layN (sipP k0 k1) (madeP G) (fullP M) j).ctrl (seqP (sipP k0 k1 s1 / 128) (layN (sipP k0 k1) (madeP G) (fullP M) j).g) ≠ none := by
          obtain ⟨_, _, _, _, _, _, _, _, e, _⟩ := lay_at i1 (s1, s2)
          rw [e]
          simp
        have hroom := i1.room
        have HG2 : Hid (Gs wr) := hid (((HGS.out.all HK2.out)).kept hK.out ⟨Ne.symm HX2.out.z1, Ne.symm HX2.out.z2, Ne.symm HX2.out.z3⟩)
        have hgp := i1.pm.g1
        have HLAY := hid (fun W hg hm => lay_any k0 k1 bx bw' cw' bs' cs' (layN (sipP k0 k1) (madeP G) (fullP M) j) i1.pm i1.bytes ⟨by omega, by omega⟩ h0 h1 s1 s2 hsk hfr W hg hm)
        rw [← hnext] at HLAY
        clear hfr hnext i1 i2 i3 hs t1 t2 hat
        go_wp2_with fail
        refine (HLAY.out _ (HG2.out.all (Kp.al _ _)) (hX.out.all (Kp.al _ _))).mono ?_
        rintro e w5 ⟨rfl, hM5, hK5⟩
        have HM5 := hid hM5
        have HK5 := hid (hK.out.trans ((Kp.al _ _).all.trans hK5))
        clear hM5 hK5
        go_wp2_with fail
        exact ⟨⟨j + 1, by omega, by go_num, HM5, HK5⟩, by simp [ivl]; omega⟩
      · have d9 : decide ((j : Int) < (N : Int)) = false := decide_eq_false (by omega)
        obtain rfl : j = N := by omega
        rw [HAL.out] at hX
        have cx := blk_cell hX.out.str
        have hbm := hK.out.heap (HK2.out.heap HM.out.str trivial) (by exact ⟨by omega, by omega, by omega⟩)
        have cm := blk_cell hbm
        have fm := blk_free hbm
        have HBM := hid hbm
        clear hbm
        go_wp2_with fail
        go_end0
        have hk : Kp (fun b => b ≠ bm) w wr := HK2.out.then hK.out (fun i hi _ => ⟨by omega, by omega, by omega⟩) |>.all
        exact ⟨rfl, bw', cw', bs', cs', hX.out.copy HBM.out (by omega) (by omega) HM.out.z1, fun b hb _ => ⟨by omega, by omega⟩, (((((hk.setOut (by simp) _).setOut (by simp) _).setOut (by simp) _).setOut (by simp) _).setOut (by simp) _).setOut (by simp) _⟩
  · have d1 : ((M.tmb : Int) == 0) = false := by simp; omega
    have d2 : decide (7 * (M.g : Int) < 2 * (M.cnt : Int)) = false := decide_eq_false (by omega)
    subst hGe
    go_enter Tryz.func35, Tryz.ntmps35
    go_wp2_with fail
    refine (HMADE.out _ HGS.out).mono ?_
    rintro e w1 ⟨bx, bw', cw', bs', cs', rfl, z1, z2, z3, hX, hK1⟩
    have HX1 := hid hX; have HK1 := hid hK1
    have hM1 := HM.out.all hK1
    clear hX hK1
    go_wp2_with fail
    refine (HFULL.out _ hM1).mono ?_
    rintro e w2 ⟨v, rfl, hown, hK2⟩
    obtain ⟨VA, vc, rfl⟩ := own_shape hown
    have HOW := hid hown; have HK2 := hid (HK1.out.trans hK2)
    have HX2 := hid (HX1.out.all hK2)
    have zx : bx < w2.heap.size := blk_lt HX2.out.str
    have zw : bw' < w1.heap.size := by obtain ⟨_, e, _⟩ := HX1.out.wds; exact blk_lt e
    have zs : bs' < w1.heap.size := by obtain ⟨_, e, _⟩ := HX1.out.sls; exact blk_lt e
    have zx1 : bx < w1.heap.size := blk_lt HX1.out.str
    have zm : bm < w.heap.size := blk_lt HM.out.str
    have hK2s := hK2.size
    obtain ⟨N, hN⟩ : ∃ N, (fullP M).length = N := ⟨_, rfl⟩
    rw [hN] at HLI HAL HFL HOW
    have hN2 : N ≤ 2000 := by have := HFL.out; omega
    have HNE := hid hN
    rw [hN]
    clear hown hK2 hM1 hN
    go_wp2_with fail
    go_loopw [37] (fun i wr => ∃ j : Nat, j ≤ N ∧ i = .int .i64 j ∧ Hid (Ms k0 k1 bx bw' cw' bs' cs' (layN (sipP k0 k1) (madeP M.g) (fullP M) j) wr) ∧ Hid (Kp (fun b => b ≠ bx ∧ b ≠ bw' ∧ b ≠ bs') w2 wr)) (fun i _ => N - (ivl i).toNat)
    case atStart => exact ⟨0, Nat.zero_le _, rfl, HX2, hid (Kp.refl _ _)⟩
    case round =>
      obtain ⟨j, hj, rfl, hX, hK⟩ := hrel
      by_cases hlt : j < N
      · have d9 : decide ((j : Int) < (N : Int)) = true := decide_eq_true (by omega)
        obtain ⟨s, hs⟩ : ∃ s, (fullP M)[j]? = some s := ⟨_, List.getElem?_eq_getElem (by rw [HNE.out]; exact hlt)⟩
        obtain ⟨i1, i2, i3⟩ := HLI.out j (by omega)
        rcases own_at HOW.out with ⟨e, _, _⟩ | ⟨gb, cap, cur, e, hgb, hgw, hat⟩
        · injection e with _ e _; omega
        injection e with e _ ec
        subst e ec
        obtain ⟨t1, t2⟩ := scs_get hs
        have hgne : gb ≠ bx ∧ gb ≠ bw' ∧ gb ≠ bs' := by
          refine ⟨?_, ?_, ?_⟩
          · intro e; rw [e] at hgw; exact absurd hgw (Nat.not_le.2 zx1)
          · intro e; rw [e] at hgw; exact absurd hgw (Nat.not_le.2 zw)
          · intro e; rw [e] at hgw; exact absurd hgw (Nat.not_le.2 zs)
        have r1 := hK.out.cell (hat _ _ t1) hgne
        have r2 := hK.out.cell (hat _ _ t2) hgne
        have q0 : (0 : Int) ≤ (j : Int) := by omega
        have q1 : (j : Int) < (N : Int) := by omega
        have hnext := layN_succ (H := sipP k0 k1) (M := madeP M.g) hs
        have hsk := HKY.out s (List.mem_of_getElem? hs)
        obtain ⟨s1, s2⟩ := s
        simp only at r1 r2 hsk
        have hfr : layL (layN (sipP k0 k1) (madeP M.g) (fullP M) j).ctrl (seqP (sipP k0 k1 s1 / 128) (layN (sipP k0 k1) (madeP M.g) (fullP M) j).g) ≠ none := by
          obtain ⟨_, _, _, _, _, _, _, _, e, _⟩ := lay_at i1 (s1, s2)
          rw [e]
          simp
        have hroom := i1.room
        have HG2 : Hid (Gs wr) := hid (((HGS.out.all HK2.out)).kept hK.out ⟨Ne.symm HX2.out.z1, Ne.symm HX2.out.z2, Ne.symm HX2.out.z3⟩)
        have hgp := i1.pm.g1
        have HLAY := hid (fun W hg hm => lay_any k0 k1 bx bw' cw' bs' cs' (layN (sipP k0 k1) (madeP M.g) (fullP M) j) i1.pm i1.bytes ⟨by omega, by omega⟩ h0 h1 s1 s2 hsk hfr W hg hm)
        rw [← hnext] at HLAY
        clear hfr hnext i1 i2 i3 hs t1 t2 hat
        go_wp2_with fail
        refine (HLAY.out _ (HG2.out.all (Kp.al _ _)) (hX.out.all (Kp.al _ _))).mono ?_
        rintro e w5 ⟨rfl, hM5, hK5⟩
        have HM5 := hid hM5
        have HK5 := hid (hK.out.trans ((Kp.al _ _).all.trans hK5))
        clear hM5 hK5
        go_wp2_with fail
        exact ⟨⟨j + 1, by omega, by go_num, HM5, HK5⟩, by simp [ivl]; omega⟩
      · have d9 : decide ((j : Int) < (N : Int)) = false := decide_eq_false (by omega)
        obtain rfl : j = N := by omega
        rw [HAL.out] at hX
        have cx := blk_cell hX.out.str
        have hbm := hK.out.heap (HK2.out.heap HM.out.str trivial) (by exact ⟨by omega, by omega, by omega⟩)
        have cm := blk_cell hbm
        have fm := blk_free hbm
        have HBM := hid hbm
        clear hbm
        go_wp2_with fail
        go_end0
        have hk : Kp (fun b => b ≠ bm) w wr := HK2.out.then hK.out (fun i hi _ => ⟨by omega, by omega, by omega⟩) |>.all
        exact ⟨rfl, bw', cw', bs', cs', hX.out.copy HBM.out (by omega) (by omega) HM.out.z1, fun b hb _ => ⟨by omega, by omega⟩, (((((hk.setOut (by simp) _).setOut (by simp) _).setOut (by simp) _).setOut (by simp) _).setOut (by simp) _).setOut (by simp) _⟩
end Go.Proofs.YtodledidabdkaaaGreatDoor

namespace Go.Proofs.YtodledidabdkaaaGreatDoor
open Go.RowKit Go.Shelf V
set_option linter.unusedVariables false
set_option linter.unusedSimpArgs false
/-- A sound map lies at bm; O are its blocks. -/
structure Lm (k0 k1 bm : Nat) (M : Mp) (O : Nat → Prop) (w : World) : Prop where
  ms : ∃ bw cw bs cs, Ms k0 k1 bm bw cw bs cs M w ∧ ∀ b, O b ↔ b = bm ∨ b = bw ∨ b = bs
  inv : Inv (sipP k0 k1) M
  h0 : k0 < 18446744073709551616
  h1 : k1 < 18446744073709551616
  keys : ∀ k v, Has M k v → k.size ≤ 9000000000000000000
theorem Lm.lt {k0 k1 bm : Nat} {M : Mp} {O : Nat → Prop} {w : World} (h : Lm k0 k1 bm M O w) : ∀ b, O b → b < w.heap.size := by
  obtain ⟨bw, cw, bs, cs, hm, hO⟩ := h.ms
  obtain ⟨_, e1, _⟩ := hm.wds
  obtain ⟨_, e2, _⟩ := hm.sls
  intro b hb
  rcases (hO b).1 hb with rfl | rfl | rfl
  · exact blk_lt hm.str
  · exact blk_lt e1
  · exact blk_lt e2
theorem Lm.kept {k0 k1 bm : Nat} {M : Mp} {O S : Nat → Prop} {w w' : World} (h : Lm k0 k1 bm M O w) (k : Kp S w w') (hS : ∀ b, O b → S b) : Lm k0 k1 bm M O w' := by
  obtain ⟨bw, cw, bs, cs, hm, hO⟩ := h.ms
  exact { h with ms := ⟨bw, cw, bs, cs, hm.kept k (hS _ ((hO _).2 (.inl rfl))) (hS _ ((hO _).2 (.inr (.inl rfl)))) (hS _ ((hO _).2 (.inr (.inr rfl)))), hO⟩ }
theorem Lm.all {k0 k1 bm : Nat} {M : Mp} {O : Nat → Prop} {w w' : World} (h : Lm k0 k1 bm M O w) (k : Kp All w w') : Lm k0 k1 bm M O w' := h.kept k (fun _ _ => trivial)
theorem Lm.nog {k0 k1 bm : Nat} {M : Mp} {O : Nat → Prop} {w : World} (h : Lm k0 k1 bm M O w) : ¬ O 0 := by
  obtain ⟨bw, cw, bs, cs, hm, hO⟩ := h.ms
  intro e
  rcases (hO _).1 e with e | e | e
  · exact hm.z1 e.symm
  · exact hm.z2 e.symm
  · exact hm.z3 e.symm
/-- What a change of a map leaves. -/
def PutR (k0 k1 bm : Nat) (M' : Mp) (O : Nat → Prop) (w w' : World) : Prop := ∃ O', Lm k0 k1 bm M' O' w' ∧ (∀ b, b < w.heap.size → O' b → O b) ∧ Kp (fun b => ¬ O b) w w'
set_option maxRecDepth 100000 in
set_option maxHeartbeats 2000000 in
theorem mput_any (k0 k1 bm : Nat) (M : Mp) (O : Nat → Prop) (key v : ByteArray) (hkey : key.size ≤ 9000000000000000000) (w : World) (hgs : Gs w) (h : Lm k0 k1 bm M O w) :
    Calls Tryz.prog 9 #[.pointer (some ⟨bm, 0, none⟩), .string key, .string v] w fun e w' => e = .returned (.tuple #[.bool (putP (sipP k0 k1) M key v).2.1, .int .i64 ((putP (sipP k0 k1) M key v).2.2 : Nat)]) ∧ PutR k0 k1 bm (putP (sipP k0 k1) M key v).1 O w w' := by
  obtain ⟨bw, cw, bs, cs, hm, hO⟩ := h.ms
  have hI := h.inv
  have hP := hI.pm
  have hinv := put_inv hI key v
  have hLK : Hid (∀ k' v', Has (putP (sipP k0 k1) M key v).1 k' v' → k'.size ≤ 9000000000000000000) := hid fun k' v' hh => by
    rcases hinv.2 with ⟨e, _⟩ | ⟨_, _, _, e⟩
    · rw [e] at hh; exact h.keys _ _ hh
    · rcases (e _ _).1 hh with ⟨rfl, _⟩ | ⟨_, hh⟩
      · exact hkey
      · exact h.keys _ _ hh
  have HINV := hid hinv.1
  have HM := hid hm; have HI := hid hI; have HGS := hid hgs; have HOO := hid hO; have HP := hid hP; have HH := hid h
  have hg1 := hP.g1
  have hcn := hI.most
  have hro := hI.room
  have HMADE := hid (mmade_yes hg1.1 w hm)
  have HFIND := hid (find_any k0 k1 bm bw cw bs cs M hP h.h0 h.h1 key hkey w hm)
  have hdef : Hid (putP (sipP k0 k1) M key v = match findP (sipP k0 k1) M key with
    | some i => (setV M i v, true, 0)
    | none => if 2000 ≤ M.cnt then (M, false, 7) else (layP (sipP k0 k1) (if 7 * M.g ≤ M.cnt + M.tmb then rehashP (sipP k0 k1) M else M) (key, v), false, 0)) := hid rfl
  obtain ⟨PR, hPR⟩ : ∃ PR, putP (sipP k0 k1) M key v = PR := ⟨_, rfl⟩
  rw [hPR] at hLK HINV hdef ⊢
  clear hPR hm hI hgs hO hinv h hP
  cases hf : findP (sipP k0 k1) M key with
  | some i =>
    have hPRe : PR = (setV M i v, true, 0) := by rw [hdef.out, hf]
    subst hPRe
    rw [hf] at HFIND
    obtain ⟨v0, hFu⟩ := find_mem HI.out hf
    have hi : i < 8 * M.g := by have := hFu.lt; rw [HP.out.len] at this; exact this
    obtain ⟨_, _, _, hsl⟩ := hFu
    have HSL := hid hsl
    clear hsl hf hdef
    have d1 : decide ((0 : Int) ≤ (i : Int)) = true := decide_eq_true (by omega)
    have i0 : (0 : Int) ≤ (i : Int) := by omega
    have i1 : (i : Int) < 8 * (M.g : Int) := by omega
    go_enter Tryz.func9, Tryz.ntmps9
    go_wp2_with fail
    refine HMADE.out.mono ?_
    rintro e w1 ⟨rfl, hw⟩
    have hw := hw.symm
    subst hw
    go_wp2_with fail
    refine HFIND.out.mono ?_
    rintro e w2 ⟨rfl, hk⟩
    simp only [optV]
    have hM2 := HM.out.all hk
    have c2 := blk_cell hM2.str
    obtain ⟨_, s2⟩ := hM2.slot HP.out.slen hi
    have fs : ∀ x, w2.frozen? ⟨bs, x, none⟩ = false := by
      obtain ⟨_, e, _⟩ := hM2.sls
      exact blk_free e
    have HK := hid hk; have HM2 := hid hM2
    clear hk hM2
    go_wp2_with fail
    refine bodyPost_ret (v := .tuple #[.bool true, .int .i64 0]) (by simp [results, Tryz.results9, go_sem]) rfl ⟨rfl, O, ⟨⟨bw, cw, bs, cs, ?_, HOO.out⟩, HINV.out, HH.out.h0, HH.out.h1, hLK.out⟩, fun _ _ h => h, ?_⟩
    · have := HM2.out.setV HSL.out v
      unfold setV
      rw [getD_of HSL.out]
      exact this
    · exact (HK.out.all).setOut (fun h => h ((HOO.out _).2 (.inr (.inr rfl)))) _
  | none =>
    have hPRe : PR = if 2000 ≤ M.cnt then (M, false, 7) else (layP (sipP k0 k1) (if 7 * M.g ≤ M.cnt + M.tmb then rehashP (sipP k0 k1) M else M) (key, v), false, 0) := by rw [hdef.out, hf]
    rw [hf] at HFIND
    clear hf hdef
    have d1 : decide ((0 : Int) ≤ (-1 : Int)) = false := by decide
    by_cases h2 : 2000 ≤ M.cnt
    · rw [if_pos h2] at hPRe
      subst hPRe
      have d2 : decide ((2000 : Int) ≤ (M.cnt : Int)) = true := decide_eq_true (by omega)
      go_enter Tryz.func9, Tryz.ntmps9
      go_wp2_with fail
      refine HMADE.out.mono ?_
      rintro e w1 ⟨rfl, hw⟩
      have hw := hw.symm
      subst hw
      go_wp2_with fail
      refine HFIND.out.mono ?_
      rintro e w2 ⟨rfl, hk⟩
      simp only [optV]
      have hM2 := HM.out.all hk
      have c2 := blk_cell hM2.str
      have HK := hid hk
      clear hk hM2
      go_wp2_with fail
      exact bodyPost_ret (v := .tuple #[.bool false, .int .i64 7]) (by simp [results, Tryz.results9, go_sem]) rfl ⟨rfl, O, HH.out.all HK.out, fun _ _ h => h, HK.out.all⟩
    · rw [if_neg h2] at hPRe
      have d2 : decide ((2000 : Int) ≤ (M.cnt : Int)) = false := decide_eq_false (by omega)
      by_cases h3 : 7 * M.g ≤ M.cnt + M.tmb
      · rw [if_pos h3] at hPRe
        have d3 : decide (7 * (M.g : Int) ≤ (M.cnt : Int) + (M.tmb : Int)) = true := decide_eq_true (by omega)
        have hw1 : IntKind.i64.wrap ((M.cnt : Int) + (M.tmb : Int)) = (M.cnt : Int) + (M.tmb : Int) := IntWalk.i64_in _ (by omega)
        have hw2 : IntKind.i64.wrap (7 * (M.g : Int)) = 7 * (M.g : Int) := IntWalk.i64_in _ (by omega)
        go_enter Tryz.func9, Tryz.ntmps9
        go_wp2_with fail
        refine HMADE.out.mono ?_
        rintro e w1 ⟨rfl, hw⟩
        have hw := hw.symm
        subst hw
        go_wp2_with fail
        refine HFIND.out.mono ?_
        rintro e w2 ⟨rfl, hk⟩
        simp only [optV]
        have hM2 := HM.out.all hk
        have c2 := blk_cell hM2.str
        have HK := hid hk; have HM2 := hid hM2
        clear hk hM2
        go_wp2_with fail
        go_quiet (fail)
        rename_i nq
        have HG2 : Hid (Gs (w2.drewN nq)) := hid (HGS.out.all (HK.out.drewN nq))
        have hreh := rehash_inv HI.out h3 (by omega)
        obtain ⟨r1, r2, r3, r4, r5⟩ := hreh
        go_wp2_with fail
        refine (rehash_any k0 k1 bm bw cw bs cs M HH.out.h0 HH.out.h1 HI.out h3 (by omega) (fun s hs => HH.out.keys s.1 s.2 (mem_full.1 hs)) _ HG2.out (HM2.out.all ((Kp.refl _ _).drewN nq))).mono ?_
        rintro e w3 ⟨rfl, bw', cw', bs', cs', hM3, hnew, hK3⟩
        obtain ⟨R, hR⟩ : ∃ R, rehashP (sipP k0 k1) M = R := ⟨_, rfl⟩
        rw [hR] at hM3 r1 r2 r3 r4 r5 hPRe
        clear hR
        have hfr : layL R.ctrl (seqP (sipP k0 k1 key / 128) R.g) ≠ none := by
          obtain ⟨_, _, _, _, _, _, _, _, e, _⟩ := lay_at r1 (key, v)
          rw [e]; simp
        have hro2 := r1.room
        have hgg := r1.pm.g1
        have HL := hid (lay_any k0 k1 bm bw' cw' bs' cs' R r1.pm r1.bytes ⟨by omega, by omega⟩ HH.out.h0 HH.out.h1 key v hkey hfr w3 (HG2.out.kept hK3 (Ne.symm HM.out.z1)) hM3)
        have HNW := hid hnew; have HK3 := hid hK3
        clear hfr hM3 hnew hK3 r1 r2 r3 r4 r5
        go_wp2_with fail
        refine HL.out.mono ?_
        rintro e w4 ⟨rfl, hM4, hK4⟩
        have HM4 := hid hM4; have HK4 := hid hK4
        clear hM4 hK4
        subst hPRe
        go_wp2_with fail
        refine bodyPost_ret (v := .tuple #[.bool false, .int .i64 0]) (by simp [results, Tryz.results9, go_sem]) rfl ⟨rfl, fun b => b = bm ∨ b = bw' ∨ b = bs', ⟨⟨bw', cw', bs', cs', HM4.out, fun _ => Iff.rfl⟩, HINV.out, HH.out.h0, HH.out.h1, hLK.out⟩, fun b hb hO' => ?_, ?_⟩
        · have hb2 : b < (w2.drewN nq).heap.size := Nat.lt_of_lt_of_le hb HK.out.size
          by_cases e : b = bm
          · exact (HOO.out _).2 (.inl e)
          · have := HNW.out b hb2 e
            rcases hO' with e1 | e1 | e1
            · exact absurd e1 e
            · exact absurd e1 this.1
            · exact absurd e1 this.2
        · have k1 : Kp (fun b => b ≠ bm) w w3 := ((HK.out.drewN nq).all).then HK3.out (fun i hi h => h)
          have k2 : Kp (fun b => ¬ O b) w w3 := k1.mono (fun i hi h e => h ((HOO.out _).2 (.inl e)))
          exact k2.then HK4.out (fun i hi hO => by
            have e : i ≠ bm := fun e => hO ((HOO.out _).2 (.inl e))
            have := HNW.out i (Nat.lt_of_lt_of_le hi HK.out.size) e
            exact ⟨e, this.1, this.2⟩)
      · rw [if_neg h3] at hPRe
        have d3 : decide (7 * (M.g : Int) ≤ (M.cnt : Int) + (M.tmb : Int)) = false := decide_eq_false (by omega)
        have hw1 : IntKind.i64.wrap ((M.cnt : Int) + (M.tmb : Int)) = (M.cnt : Int) + (M.tmb : Int) := IntWalk.i64_in _ (by omega)
        have hw2 : IntKind.i64.wrap (7 * (M.g : Int)) = 7 * (M.g : Int) := IntWalk.i64_in _ (by omega)
        go_enter Tryz.func9, Tryz.ntmps9
        go_wp2_with fail
        refine HMADE.out.mono ?_
        rintro e w1 ⟨rfl, hw⟩
        have hw := hw.symm
        subst hw
        go_wp2_with fail
        refine HFIND.out.mono ?_
        rintro e w2 ⟨rfl, hk⟩
        simp only [optV]
        have hM2 := HM.out.all hk
        have c2 := blk_cell hM2.str
        have HK := hid hk; have HM2 := hid hM2
        clear hk hM2
        go_wp2_with fail
        go_quiet (fail)
        rename_i nq
        have hfr : layL M.ctrl (seqP (sipP k0 k1 key / 128) M.g) ≠ none := by
          obtain ⟨_, _, _, _, _, _, _, _, e, _⟩ := lay_at HI.out (key, v)
          rw [e]; simp
        have HL := hid (lay_any k0 k1 bm bw cw bs cs M HP.out HI.out.bytes ⟨by omega, by omega⟩ HH.out.h0 HH.out.h1 key v hkey hfr (w2.drewN nq) (HGS.out.all (HK.out.drewN nq)) (HM2.out.all ((Kp.refl _ _).drewN nq)))
        clear hfr
        go_wp2_with fail
        refine HL.out.mono ?_
        rintro e w4 ⟨rfl, hM4, hK4⟩
        have HM4 := hid hM4; have HK4 := hid hK4
        clear hM4 hK4
        subst hPRe
        go_wp2_with fail
        refine bodyPost_ret (v := .tuple #[.bool false, .int .i64 0]) (by simp [results, Tryz.results9, go_sem]) rfl ⟨rfl, O, ⟨⟨bw, cw, bs, cs, HM4.out, HOO.out⟩, HINV.out, HH.out.h0, HH.out.h1, hLK.out⟩, fun _ _ h => h, ?_⟩
        exact ((HK.out.drewN nq).all).then HK4.out (fun i hi hO => ⟨fun e => hO ((HOO.out _).2 (.inl e)), fun e => hO ((HOO.out _).2 (.inr (.inl e))), fun e => hO ((HOO.out _).2 (.inr (.inr e)))⟩)
end Go.Proofs.YtodledidabdkaaaGreatDoor
