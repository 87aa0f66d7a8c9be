/- The map's full slots walked. No condition but that the map lies. -/
import Derived.Test.YtodledidabdkaaaDoorVV
namespace Go.Proofs.YtodledidabdkaaaDoor
open Go.RowKit Go.Shelf V
set_option linter.unusedVariables false
set_option linter.unusedSimpArgs false
def fullAt (M : Mp) (q : Nat) (L : List Nat) : List Slot := L.map fun i => M.slots.getD (8 * q + i) zslot
def fullG (M : Mp) (n : Nat) : List Slot := (List.range n).flatMap fun q => fullAt M q (els (bitsOf (fun b => decide (b < 128)) (grp M.ctrl q)))
theorem fullG_succ (M : Mp) (n : Nat) : fullG M (n + 1) = fullG M n ++ fullAt M n (els (bitsOf (fun b => decide (b < 128)) (grp M.ctrl n))) := by
  unfold fullG
  rw [List.range_succ, List.flatMap_append, List.flatMap_cons, List.flatMap_nil, List.append_nil]
theorem range8 : ∀ n : Nat, List.range (8 * n) = (List.range n).flatMap fun q => (List.range 8).map (8 * q + ·)
  | 0 => rfl
  | n + 1 => by
    rw [show List.range (n + 1) = List.range n ++ [n] from List.range_succ, List.flatMap_append, ← range8 n, List.flatMap_cons, List.flatMap_nil, List.append_nil, show 8 * (n + 1) = 8 * n + 8 from by omega, List.range_add]
theorem fm_congr {α β : Type} {f g : α → Option β} : ∀ {l : List α}, (∀ x ∈ l, f x = g x) → l.filterMap f = l.filterMap g
  | [], _ => rfl
  | x :: l, h => by
    rw [List.filterMap_cons, List.filterMap_cons, h x (List.mem_cons_self ..), fm_congr (fun y hy => h y (List.mem_cons_of_mem _ hy))]
theorem fullG_all {M : Mp} (hl : M.ctrl.length = 8 * M.g) (hs : M.slots.length = 8 * M.g) : fullG M M.g = fullP M := by
  unfold fullP fullG fullAt
  rw [hl, range8, List.filterMap_flatMap]
  have h : ∀ (L : List Nat), (∀ q ∈ L, q < M.g) → (L.flatMap fun q => (els (bitsOf (fun b => decide (b < 128)) (grp M.ctrl q))).map fun i => M.slots.getD (8 * q + i) zslot) = L.flatMap fun q => ((List.range 8).map (8 * q + ·)).filterMap fun i => if M.ctrl.getD i 128 < 128 then M.slots[i]? else none := by
    intro L
    induction L with
    | nil => intro _; rfl
    | cons q r ih =>
      intro hq
      rw [List.flatMap_cons, List.flatMap_cons, ih (fun x hx => hq x (List.mem_cons_of_mem _ hx))]
      congr 1
      have hqg := hq q (List.mem_cons_self ..)
      rw [els_bits, List.filterMap_map, ← List.filterMap_eq_map, List.filterMap_filter]
      refine fm_congr fun i hi => ?_
      have hi8 := List.mem_range.1 hi
      simp only [Function.comp]
      rw [grp_get hi8]
      have hlt : 8 * q + i < M.ctrl.length := by omega
      have hls : 8 * q + i < M.slots.length := by omega
      rw [List.getElem?_eq_getElem hlt, getD_of (List.getElem?_eq_getElem hlt), List.getElem?_eq_getElem hls, getD_of (List.getElem?_eq_getElem hls)]
      simp
  exact h _ fun q hq => List.mem_range.1 hq
theorem els_len (s : Nat) : (els s).length ≤ 8 := by
  unfold els
  exact Nat.le_trans (List.length_filter_le _ _) (by simp)
theorem fullG_len (M : Mp) : ∀ n, (fullG M n).length ≤ 8 * n
  | 0 => Nat.zero_le _
  | n + 1 => by
    have h1 := fullG_len M n
    have h2 := els_len (bitsOf (fun b => decide (b < 128)) (grp M.ctrl n))
    rw [fullG_succ, List.length_append, fullAt, List.length_map]
    omega
theorem fullAt_cons (M : Mp) (q i : Nat) (r : List Nat) : fullAt M q (i :: r) = M.slots.getD (8 * q + i) zslot :: fullAt M q r := rfl
theorem scs_append (a b : List Slot) : scs (a ++ b) = scs a ++ scs b := by simp [scs]
theorem sl_new2 {w : World} {m : Nat} (hm : m = w.heap.size) (s : Slot) (t : TypeId) : Sl (some ⟨m, 0, none⟩) 1 1 2 [.string s.1, .string s.2] (w.alloc (.cells #[.string s.1, .string s.2] t)) := by
  subst hm
  refine ⟨rfl, Nat.le_refl _, fun _ => ⟨_, 0, rfl, fun j u hj => ?_⟩⟩
  rw [Nat.zero_add, blk_cell (blk_new w _)]
  simpa using hj
theorem two_one (s : Slot) : ∀ u ∈ [Value.string s.1, Value.string s.2], u.oneCell' = true := by
  intro u hu
  simp at hu
  rcases hu with rfl | rfl <;> rfl
/-- The slots are answered, all else kept. -/
def SlotsR (l : List Slot) (w : World) (e : Ending) (w' : World) : Prop := ∃ v, e = .returned v ∧ w'.ownsRow w.heap.size 70 2 v l.length (scs l) ∧ Kp All w w'
set_option maxRecDepth 100000 in
set_option maxHeartbeats 2000000 in
theorem mfull_any (k0 k1 bm bw cw bs cs : Nat) (M : Mp) (hP : Pm M) (w : World) (h : Ms k0 k1 bm bw cw bs cs M w) : Calls Tryd.prog 60 #[.pointer (some ⟨bm, 0, none⟩)] w (SlotsR (fullP M) w) := by
  rw [← fullG_all hP.len hP.slen]
  have HM := hid h; have HP := hid hP
  have c0 := blk_cell h.str
  have hg1 := hP.g1
  have HR0 := hid (World.ownsRow_nil w w.heap.size 70 2)
  clear h
  go_enter Tryd.func60, Tryd.ntmps60
  go_wp2_with fail
  go_loopw [3, 12] (fun l i wr => ∃ q : Nat, q ≤ M.g ∧ i = .int .i64 q ∧ Hid (wr.ownsRow w.heap.size 70 2 l (fullG M q).length (scs (fullG M q))) ∧ Hid (Kp All w wr)) (fun _ i _ => M.g - (ivl i).toNat)
  case atStart => exact ⟨0, Nat.zero_le _, rfl, HR0, hid (Kp.refl _ _)⟩
  case round =>
    obtain ⟨q, hq, rfl, HR, HK⟩ := hrel
    by_cases hlt : q < M.g
    · have d1 : decide ((q : Int) < (M.g : Int)) = true := decide_eq_true (by omega)
      have hMr := HM.out.all HK.out
      have hwd := hMr.word rfl hlt
      have j0 : (0 : Int) ≤ (q : Int) := by omega
      have j1 : (q : Int) < (M.g : Int) := by omega
      have HFu := hid (fun w => gfull_any (grp M.ctrl q) (HP.out.gb q) (HP.out.g8 hlt) w)
      have hS0 := bits_lt (fun b => decide (b < 128)) (grp M.ctrl q)
      rw [HP.out.g8 hlt] at hS0
      have HSU := hid (fullG_succ M q)
      obtain ⟨S0, hS⟩ : ∃ S0, bitsOf (fun b => decide (b < 128)) (grp M.ctrl q) = S0 := ⟨_, rfl⟩
      rw [hS] at HFu hS0 HSU
      obtain ⟨wq, hwq⟩ : ∃ wq, wd (grp M.ctrl q) = wq := ⟨_, rfl⟩
      rw [hwq] at HFu hwd
      clear hS hwq hMr
      go_wp2_with fail
      refine (HFu.out _).mono ?_
      rintro e w1 ⟨rfl, hw⟩
      have hw := hw.symm
      subst hw
      go_wp2_with fail
      have HL1 := hid (show (fullG M (q + 1)).length ≤ 8 * (q + 1) from fullG_len M (q + 1))
      go_loopw [3, 6] (fun l v wr => ∃ (st : Nat) (pre : List Slot), v = .int .u8 st ∧ st < 256 ∧ Hid (pre ++ fullAt M q (els st) = fullG M (q + 1)) ∧ Hid (wr.ownsRow w.heap.size 70 2 l pre.length (scs pre)) ∧ Hid (Kp All w wr)) (fun _ v _ => (els (ivl v).toNat).length)
      case atStart => exact ⟨S0, fullG M q, rfl, hS0, hid HSU.out.symm, HR, HK⟩
      case round =>
        obtain ⟨st, pre, rfl, hst, hpre, hrow, hkr⟩ := hrel
        by_cases hz : st = 0
        · have d2 : ((st : Int) != 0) = false := by rw [hz]; rfl
          have hfin : pre = fullG M (q + 1) := by
            have := hpre.out
            rwa [hz, els_zero, fullAt, List.map_nil, List.append_nil] at this
          subst hfin
          go_wp2_with fail
          exact ⟨⟨q + 1, hlt, by go_num, hrow, hkr⟩, by simp [ivl]; omega⟩
        · have d2 : ((st : Int) != 0) = true := by simp; omega
          obtain ⟨i, hi, hi8⟩ := els_next ⟨st, hst⟩ hz
          simp only at hi
          have hMr := HM.out.all hkr.out
          have hcr := blk_cell hMr.str
          have hjg : 8 * q + i < 8 * M.g := by omega
          obtain ⟨s1, s2⟩ := hMr.slot HP.out.slen hjg
          have HF1 := hid (fun w => first_any st i _ hst hi w)
          have HN1 := hid (fun w => next_any st i _ hst hi w)
          obtain ⟨jj, hjj⟩ : ∃ jj, 8 * q + i = jj := ⟨_, rfl⟩
          rw [hjj] at s1 s2 hjg
          obtain ⟨sv, hsv⟩ : ∃ sv, M.slots.getD jj zslot = sv := ⟨_, rfl⟩
          rw [hsv] at s1 s2
          have HPR : Hid ((pre ++ [sv]) ++ fullAt M q (els (st &&& (st - 1))) = fullG M (q + 1)) := hid (by
            rw [← hpre.out, hi, fullAt_cons, hjj, hsv]; simp)
          have hjI : 8 * (q : Int) + (i : Int) = (jj : Int) := by omega
          have g0 : (0 : Int) ≤ (jj : Int) := by omega
          have g1 : (jj : Int) < 8 * (M.g : Int) := by omega
          have hw1 : IntKind.i64.wrap (8 * (q : Int)) = 8 * (q : Int) := IntWalk.i64_in _ (by omega)
          have hw3 : IntKind.i64.wrap (jj : Int) = (jj : Int) := IntWalk.i64_in _ (by omega)
          have hw2 : IntKind.i64.wrap (8 * (q : Int) + (i : Int)) = (jj : Int) := by rw [hjI]; exact hw3
          have HLP : Hid (pre.length ≤ 8192) := hid (by
            have h1 := congrArg List.length HPR.out
            have h2 := HL1.out
            simp only [List.length_append] at h1
            omega)
          have HEL := hid hi
          have hsz := hkr.out.size
          clear hjj hsv hpre hi hMr
          go_wp2_with fail
          obtain ⟨VA, vc, rfl⟩ := own_shape hrow.out
          go_region_law (first | (refine step_plain rfl ?_; go_simp; refine (HF1.out _).mono ?_; rintro e w5 ⟨rfl, rfl⟩; dsimp only) | (refine step_plain rfl (wp_app els2 (World.ownsRow.alloc (World.ownsRow.drew hrow.out) _) (sl_new2 rfl sv 70) (two_one sv) ?_ ?_ _ _ rfl rfl rfl ?_); (have := HLP.out; omega); (simp; omega); intro v' w6 hown6 hg6 hob6 hnil6; dsimp only))
          all_goals
            obtain ⟨A6, c6, rfl⟩ := own_shape hown6
            have hk6 : Kp All w w6 := (hkr.out.drew.alloc _).then (Kp.grown hg6) (fun b hb _ e => by have := (hrow.out.lt b e.symm).1; omega)
            have ho6 : w6.ownsRow w.heap.size 70 2 (.slice A6 (pre.length + 1) c6) (pre ++ [sv]).length (scs (pre ++ [sv])) := by
              rw [scs_append, List.length_append]
              exact hown6
            have HO6 := hid ho6; have HK6 := hid hk6
            clear hown6 hg6 hob6 hnil6 ho6 hk6
            simp only [Act.put, List.setIfInBounds_toArray, List.set_cons_zero, List.set_cons_succ]
            go_wp2_with fail
            refine (HN1.out _).mono ?_
            rintro e w7 ⟨s', rfl, hs', he', hw7⟩
            have hw7 := hw7.symm
            subst hw7
            have HE' := hid he'
            clear he'
            go_wp2_with fail
            refine ⟨⟨s', pre ++ [sv], rfl, hs', hid (by rw [HE'.out]; exact HPR.out), HO6, HK6⟩, ?_⟩
            simp only [ivl, Int.toNat_natCast]
            rw [HE'.out, HEL.out]
            simp
    · have d1 : decide ((q : Int) < (M.g : Int)) = false := decide_eq_false (by omega)
      obtain rfl : q = M.g := by omega
      go_wp2_with fail
      go_ret
      exact ⟨_, rfl, HR.out, HK.out⟩
end Go.Proofs.YtodledidabdkaaaDoor
