/- The map's New walked: Need, Repeat, made. No condition but that the hint is not great. -/
import Derived.Test.YtodledidabdkaaaDoorVT
import Derived.Laws.CopyOwn
import Derived.Deep.RegionLaw
namespace Go.Proofs.YtodledidabdkaaaDoor
open Go.RowKit Go.Shelf V
set_option linter.unusedVariables false
set_option linter.unusedSimpArgs false
set_option maxRecDepth 100000 in
theorem need_any (n : Nat) (hn : n ≤ 7000) (w : World) : Calls Tryd.prog 21 #[.int .i64 n] w fun e w' => (∃ g : Nat, (∃ k, k ≤ 10 ∧ g = 2 ^ k) ∧ e = .returned (.int .i64 g) ∧ n ≤ 7 * g ∧ (n ≤ 7 → g = 1)) ∧ w' = w := by
  go_enter Tryd.func21, Tryd.ntmps21
  go_wp2_with fail
  go_loopw [3] (fun g wr => ∃ k : Nat, k ≤ 10 ∧ g = .int .i64 ((2 ^ k : Nat) : Int) ∧ Hid (n ≤ 7 → k = 0) ∧ wr = w) (fun g _ => 2000 - (ivl g).toNat)
  case atStart => exact ⟨0, by omega, rfl, hid fun _ => rfl, rfl⟩
  case round =>
    obtain ⟨k, hk, rfl, H7, rfl⟩ := hrel
    obtain ⟨p1, p2, _⟩ := pow_good ⟨k, by omega⟩
    simp only at p1 p2
    obtain ⟨g, hg⟩ : ∃ g, 2 ^ k = g := ⟨_, rfl⟩
    rw [hg] at p1 p2 ⊢
    have HG := hid hg
    clear hg
    by_cases hlt : 7 * g < n
    · have d1 : decide (7 * (g : Int) < (n : Int)) = true := decide_eq_true (by omega)
      have hk9 : k ≤ 9 := by
        rcases Nat.lt_or_ge k 10 with h | h
        · omega
        · have : k = 10 := by omega
          have e := HG.out
          rw [this] at e
          omega
      obtain ⟨q1, q2, _⟩ := pow_good ⟨k + 1, by omega⟩
      simp only [Nat.pow_succ, HG.out] at q1 q2
      have d2 : decide ((1024 : Int) < (g : Int) * 2) = false := decide_eq_false (by omega)
      go_wp2_with fail
      refine ⟨⟨k + 1, by omega, ?_, hid fun h => by omega, trivial⟩, by simp [ivl]; omega⟩
      rw [Nat.pow_succ, HG.out]
      rfl
    · have d1 : decide (7 * (g : Int) < (n : Int)) = false := decide_eq_false (by omega)
      go_wp2_with fail
      go_ret
      exact ⟨⟨g, ⟨k, hk, HG.out.symm⟩, rfl, by omega, fun h => by rw [← HG.out, H7.out h]⟩, rfl⟩
set_option maxRecDepth 100000 in
theorem mul64_any (g : Nat) (hg : g ≤ 1024) (w : World) : Calls Tryd.prog 92 #[.int .u64 1, .int .u64 g] w fun e w' => e = .returned (.tuple #[.int .u64 0, .int .u64 g]) ∧ w' = w := by
  have h1 : bits .and .u64 (g : Int) 4294967295 = (g : Int) := by
    rw [show (4294967295 : Int) = ((4294967295 : Nat) : Int) from rfl, u64_and_nat _ _ (by omega) (by decide), show (4294967295 : Nat) = 2 ^ 32 - 1 from rfl, Nat.and_two_pow_sub_one_eq_mod]
    congr 1
    omega
  have h2 : (g : Int) / 4294967296 = 0 := by omega
  have h3 : bits .and .u64 1 4294967295 = 1 := by decide +kernel
  have h4 : bits .and .u64 0 4294967295 = 0 := by decide +kernel
  go_enter Tryd.func92, Tryd.ntmps92
  go_wp2_with fail
  refine bodyPost_ret (v := .tuple #[.int .u64 0, .int .u64 g]) (by simp [results, Tryd.results92, go_sem]) rfl ⟨rfl, rfl⟩
set_option maxRecDepth 100000 in
theorem mul_any (g : Nat) (hg : g ≤ 1024) (w : World) : Calls Tryd.prog 66 #[.int .u64 1, .int .u64 g] w fun e w' => e = .returned (.tuple #[.int .u64 0, .int .u64 g]) ∧ w' = w := by
  go_enter Tryd.func66, Tryd.ntmps66
  go_wp2_with fail
  refine (mul64_any g hg _).mono ?_
  rintro e w' ⟨rfl, rfl⟩
  go_wp2_with fail
  refine bodyPost_ret (v := .tuple #[.int .u64 0, .int .u64 g]) (by simp [results, Tryd.results66, go_sem]) rfl ⟨rfl, rfl⟩
theorem el64 : El Tryd.prog 71 26 1 8 (.int .u64 0) := ⟨Tryd.underlying71, by kernel_rfl, rfl, by decide, by decide⟩
def noneV : Value := .int .u64 9259542123273814144
def zeroV : Value := .int .u64 0
theorem mk_u64 (n : Nat) (hn : n ≤ 1024) (w : World) :
    (Instr.makeSlice 71 (.int .i64 (n : Int)) (.int .i64 (n : Int))).run Tryd.prog w = .ok (.slice (some ⟨w.heap.size, 0, none⟩) n n) (w.alloc (.cells (List.replicate n zeroV).toArray 26)) := by
  obtain ⟨i, hi, hz, hs, hb⟩ := info_parts el64.info
  have := run_make (P := Tryd.prog) w 71 26 i (.int .u64 0) el64.sl hi hz .i64 .i64 (n : Int) (n : Int) (by omega) (by omega) (by rw [hb]; omega) (by omega)
  have e : madeCells (Value.cells (.int .u64 0)) (n * 1) = (List.replicate n zeroV).toArray := by
    rw [Nat.mul_one, zeroV, ← toList_madeCells_one, Array.toArray_toList]; rfl
  rw [this, hs, Int.toNat_natCast, e]
theorem none_one : ∀ v ∈ [noneV], v.oneCell' = true := by
  intro v hv
  simp at hv
  subst hv
  rfl
/-- a row that is filled up to m -/
def filled (g m : Nat) : List Value := List.replicate m noneV ++ List.replicate (g - m) zeroV
theorem filled_splice {g m k : Nat} (h : m + k ≤ g) : splice (filled g m) m (List.replicate k noneV) = filled g (m + k) := by
  unfold splice filled
  rw [List.take_append_of_le_length (by simp), List.take_of_length_le (by simp), List.drop_append, List.drop_eq_nil_of_le (by simp), List.nil_append, List.length_replicate, List.length_replicate, List.drop_replicate, ← List.append_assoc]
  rw [List.replicate_append_replicate, show g - m - (m + k - m) = g - (m + k) from by omega]
theorem Kp.setRow {S : Nat → Prop} {a w : World} (h : Kp S a w) {g : Nat} (hp : g < a.heap.size → ¬ S g) (cs : Array Value) : Kp S a (w.setRow g cs) := by
  refine ⟨h.os, h.tape, h.output, ?_, fun b hb hs => ?_⟩
  · unfold World.setRow
    simpa using h.size
  · have hne : g ≠ b := fun e => hp (e ▸ hb) (e ▸ hs)
    unfold World.setRow
    simp only [Array.getElem?_modify, if_neg hne]
    exact h.block b hb hs
set_option maxRecDepth 100000 in
set_option maxHeartbeats 1000000 in
theorem repeat_any (x g : Nat) (hg1 : 1 ≤ g) (hg : g ≤ 1024) (w : World) (hx : w.heap[x]? = some (.cells #[noneV] 26 (0, 0))) :
    Calls Tryd.prog 42 #[.slice (some ⟨x, 0, none⟩) 1 1, .int .i64 g] w fun e w' => e = .returned (.slice (some ⟨w.heap.size, 0, none⟩) g g) ∧ w'.heap[w.heap.size]? = some (.cells (List.replicate g noneV).toArray 26 (0, 0)) ∧ Kp All w w' := by
  have hm := mk_u64 g hg
  have d0 : decide ((g : Int) < 0) = false := decide_eq_false (by omega)
  have d1 : decide ((9223372036854775807 : Int) < (g : Int)) = false := decide_eq_false (by omega)
  have HX := hid hx
  have hxl := blk_lt hx
  clear hx
  go_enter Tryd.func42, Tryd.ntmps42
  go_wp2_with fail
  refine (mul_any g hg _).mono ?_
  rintro e w' ⟨rfl, hw⟩
  have hw := hw.symm
  subst hw
  have hV := blk_new w (.cells (Array.replicate g zeroV) 26)
  have hxV := blk_alloc HX.out (.cells (Array.replicate g zeroV) 26)
  have kV := Kp.al w (.cells (Array.replicate g zeroV) 26)
  have hc := run_copy_row (P := Tryd.prog) (w.alloc (.cells (Array.replicate g zeroV) 26)) 71 71 3 26 w.heap.size 0 g g ⟨x, 0, none⟩ 1 1 (Array.replicate g zeroV) 26 [noneV] Tryd.underlying71 (by kernel_rfl) hV (show 1 = min 1 g by omega) (fun j v hj => by
    rw [add_lit0, Nat.zero_add, blk_cell hxV]
    simpa using hj) (by simp; omega) none_one
  obtain ⟨V, hVe⟩ : ∃ V, (w.alloc (.cells (Array.replicate g zeroV) 26)).setRow w.heap.size ((Array.replicate g zeroV).toList.take 0 ++ [noneV] ++ (Array.replicate g zeroV).toList.drop (0 + [noneV].length)).toArray = V := ⟨_, rfl⟩
  rw [hVe] at hc
  have hb1 : V.heap[w.heap.size]? = some (.cells (filled g 1).toArray 26 (0, 0)) := by
    rw [← hVe, setRow_heap _ _ _ _ _ _ hV]
    congr 2
    rw [filled, Array.toList_replicate]
    simp
  have hk1 : Kp All w V := by
    rw [← hVe]
    exact kV.setRow (fun h => by omega) _
  have HB1 := hid hb1; have HK1 := hid hk1
  clear hVe hb1 hk1 hV hxV kV
  go_wp2_with fail
  clear hc
  go_loopw [8] (fun i wr => ∃ m : Nat, 1 ≤ m ∧ m ≤ g ∧ i = .int .i64 m ∧ Hid (wr.heap[w.heap.size]? = some (.cells (filled g m).toArray 26 (0, 0))) ∧ Hid (Kp All w wr)) (fun i _ => g - (ivl i).toNat)
  case atStart => exact ⟨1, Nat.le_refl _, hg1, rfl, HB1, HK1⟩
  case round =>
    obtain ⟨m, hm1, hmg, rfl, HB, HK⟩ := hrel
    by_cases hlt : m < g
    · have d2 : decide ((m : Int) < (g : Int)) = true := decide_eq_true (by omega)
      have i1 : (0 : Int) ≤ (m : Int) := by omega
      have i2 : (m : Int) ≤ (g : Int) := by omega
      obtain ⟨k, hk⟩ : ∃ k, min m (g - m) = k := ⟨_, rfl⟩
      have hk1 : 1 ≤ k := by omega
      have hkm : k ≤ m := by omega
      have hkg : m + k ≤ g := by omega
      have hc := run_copy_row (P := Tryd.prog) wr.drew 71 71 3 26 w.heap.size m (g - m) (g - m) ⟨w.heap.size, 0, none⟩ m g (filled g m).toArray 26 (List.replicate k noneV) Tryd.underlying71 (by kernel_rfl) HB.out (by rw [List.length_replicate]; exact hk.symm) (fun j v hj => by
        rw [add_lit0, Nat.zero_add]
        have hj2 := List.getElem?_eq_some_iff.1 hj
        obtain ⟨hjl, hjv⟩ := hj2
        rw [List.length_replicate] at hjl
        rw [List.getElem_replicate] at hjv
        subst hjv
        rw [blk_cell (show wr.drew.heap[w.heap.size]? = _ from HB.out)]
        rw [List.getElem?_toArray, filled, List.getElem?_append_left (by simp; omega), List.getElem?_replicate, if_pos (by omega)]) (by simp [filled]; omega) (fun v hv => by
        rw [List.eq_of_mem_replicate hv]; rfl)
      obtain ⟨V2, hV2⟩ : ∃ V2, wr.drew.setRow w.heap.size ((filled g m).toArray.toList.take m ++ List.replicate k noneV ++ (filled g m).toArray.toList.drop (m + (List.replicate k noneV).length)).toArray = V2 := ⟨_, rfl⟩
      rw [hV2, List.length_replicate] at hc
      have hb2 : V2.heap[w.heap.size]? = some (.cells (filled g (m + k)).toArray 26 (0, 0)) := by
        rw [← hV2, setRow_heap _ _ _ _ _ _ (show wr.drew.heap[w.heap.size]? = _ from HB.out), ← filled_splice hkg]
        simp only [splice, List.append_assoc]
      have HB2 := hid hb2
      have HK2 : Hid (Kp All w V2) := hid (by
        rw [← hV2]
        exact HK.out.drew.setRow (fun h => by omega) _)
      clear hV2 hb2
      go_wp2_with fail
      go_region
      go_wp2_with fail
      exact ⟨⟨m + k, by omega, hkg, by go_num, HB2, HK2⟩, by simp [ivl]; omega⟩
    · have d2 : decide ((m : Int) < (g : Int)) = false := decide_eq_false (by omega)
      obtain rfl : m = g := by omega
      go_wp2_with fail
      go_ret
      have := HB.out
      rw [filled, Nat.sub_self, List.replicate_zero, List.append_nil] at this
      exact ⟨rfl, this, HK.out⟩
theorem els2 : El Tryd.prog 72 70 2 32 (.agg #[.string ⟨#[]⟩, .string ⟨#[]⟩]) := ⟨Tryd.underlying72, by kernel_rfl, rfl, by decide, by decide⟩
theorem scs_rep (n : Nat) : (scs (List.replicate n zslot)).length = n * 2 := by rw [scs_len, List.length_replicate]
theorem made_slots (n : Nat) : madeCells (Value.cells (.agg #[.string ⟨#[]⟩, .string ⟨#[]⟩])) (n * 2) = (scs (List.replicate n zslot)).toArray := by
  have hz : Value.cells (.agg #[.string ⟨#[]⟩, .string ⟨#[]⟩]) = #[.string ⟨#[]⟩, .string ⟨#[]⟩] := rfl
  apply Array.ext
  · rw [size_madeCells]; simp [scs_rep]
  · intro i h1 h2
    have hi : i < n * 2 := by rw [size_madeCells] at h1; exact h1
    have e : (scs (List.replicate n zslot))[i]? = some (.string ⟨#[]⟩) := by
      obtain ⟨g1, g2⟩ := scs_get (l := List.replicate n zslot) (i := i / 2) (s := zslot) (by rw [List.getElem?_replicate, if_pos (by omega)])
      rcases Nat.mod_two_eq_zero_or_one i with h | h
      · rw [show i / 2 * 2 = i from by omega] at g1; exact g1
      · rw [show i / 2 * 2 + 1 = i from by omega] at g2; exact g2
    have e2 : (scs (List.replicate n zslot)).toArray[i] = .string ⟨#[]⟩ := by
      rw [List.getElem_toArray]
      rw [List.getElem?_eq_getElem (by rw [scs_rep]; exact hi)] at e
      exact Option.some.inj e
    rw [e2]
    simp only [madeCells, Array.getElem_map, Array.getElem_range]
    rw [hz]
    have h2 : i % 2 = 0 ∨ i % 2 = 1 := by omega
    have hs : (#[Value.string ⟨#[]⟩, Value.string ⟨#[]⟩] : Array Value).size = 2 := rfl
    rw [hs]
    rcases h2 with h2 | h2 <;> rw [h2] <;> rfl
theorem mk_slots (n : Nat) (hn : n ≤ 8192) (w : World) :
    (Instr.makeSlice 72 (.int .i64 (n : Int)) (.int .i64 (n : Int))).run Tryd.prog w = .ok (.slice (some ⟨w.heap.size, 0, none⟩) n n) (w.alloc (.cells (scs (List.replicate n zslot)).toArray 70)) := by
  obtain ⟨i, hi, hz, hs, hb⟩ := info_parts els2.info
  have := run_make (P := Tryd.prog) w 72 70 i (.agg #[.string ⟨#[]⟩, .string ⟨#[]⟩]) els2.sl hi hz .i64 .i64 (n : Int) (n : Int) (by omega) (by omega) (by rw [hb]; omega) (by omega)
  rw [this, hs, Int.toNat_natCast, made_slots]
end Go.Proofs.YtodledidabdkaaaDoor
