/- The map's lay walked. No condition but that the map lies, that the numbers are of their kinds, that there is a free slot, and where the table of shifts lies. The map's made, Get and Len walked. No condition but that the map lies. The map's New walked: Need, Repeat, made. No condition but that the hint is not great. The map's made (an empty one) and New walked. No condition but that the numbers are of their kinds. -/
import Derived.Test.YtodledidabdkaaaGreatDoorM4
import Derived.Laws.CopyOwn
import Derived.Deep.RegionLaw
set_option linter.unusedVariables false
set_option linter.unusedSimpArgs false
namespace Go.Proofs.YtodledidabdkaaaGreatDoor
open Go.RowKit Go.Shelf V
set_option linter.unusedVariables false
set_option linter.unusedSimpArgs false
attribute [local go_sem] Oper.semAt_some
/-- A key that is not there goes into slot i. -/
def layAt (M : Mp) (i c : Nat) (s : Slot) : Mp := ⟨M.ctrl.set i c, M.slots.set i s⟩
theorem layAt_cnt {M : Mp} {i c b : Nat} {s : Slot} (hb : M.ctrl[i]? = some b) (hb2 : b = 128 ∨ b = 254) (hc : c < 128) : (layAt M i c s).cnt = M.cnt + 1 ∧ (layAt M i c s).tmb + (if b = 254 then 1 else 0) = M.tmb ∧ (layAt M i c s).g = M.g := by
  have h1 := countP_set (fun b => decide (b < 128)) M.ctrl i b c hb
  have h2 := countP_set (fun b => b == 254) M.ctrl i b c hb
  have e1 : decide (b < 128) = false := by simp; omega
  have e2 : decide (c < 128) = true := by simp; omega
  have e3 : (c == 254) = false := by simp; omega
  simp only [e1, e2, e3, if_true, Bool.false_eq_true, if_false] at h1 h2
  refine ⟨by unfold Mp.cnt layAt; simpa using h1, ?_, by simp [Mp.g, layAt]⟩
  unfold Mp.tmb layAt
  simp only [beq_iff_eq, Nat.add_zero] at h2 ⊢
  exact h2
theorem layL_get {c : List Nat} : ∀ {L : List Nat} {i : Nat}, layL c L = some i → ∃ b, c[i]? = some b ∧ (b = 128 ∨ b = 254)
  | [], i, h => by simp [layL] at h
  | q :: r, i, h => by
    rw [layL] at h
    cases he : els (free c q) with
    | nil =>
      rw [he] at h
      exact layL_get h
    | cons j r' =>
      rw [he] at h
      simp only [Option.some.injEq] at h
      have hj : j ∈ els (free c q) := by rw [he]; exact List.mem_cons_self ..
      obtain ⟨h1, b, h2, h3⟩ := mem_els.1 hj
      rw [grp_get h1, h] at h2
      exact ⟨b, h2, by simpa using h3⟩
set_option maxRecDepth 100000 in
set_option maxHeartbeats 4000000 in
theorem lay_any (k0 k1 bm bw cw bs cs : Nat) (M : Mp) (hP : Pm M) (hby : ∀ b ∈ M.ctrl, b < 128 ∨ b = 128 ∨ b = 254) (hcn : M.cnt ≤ 1000000 ∧ M.tmb ≤ 1000000) (h0 : k0 < 18446744073709551616) (h1 : k1 < 18446744073709551616) (key v : ByteArray) (hkey : key.size ≤ 9000000000000000000) (hfree : layL M.ctrl (seqP (sipP k0 k1 key / 128) M.g) ≠ none) (w : World) (hgs : Gs w) (h : Ms k0 k1 bm bw cw bs cs M w) :
    Calls Tryz.prog 36 #[.pointer (some ⟨bm, 0, none⟩), .agg #[.string key, .string v]] w fun e w' => e = .returned (.tuple #[]) ∧ Ms k0 k1 bm bw cw bs cs (layP (sipP k0 k1) M (key, v)) w' ∧ Kp (fun k => k ≠ bm ∧ k ≠ bw ∧ k ≠ bs) w w' := by
  refine (callsIn_wide (n := 6)).1 ?_
  have hsip := sip_lt h0 h1 key
  have HM := hid h; have HP := hid hP
  have hc0 := blk_cell h.str
  have HGS := hid hgs; have HFR := hid hfree; have HBY := hid hby
  clear hgs hfree hby
  refine callsIn_of_wp_marks Tryz.func36 rfl trivial ?_ rfl
  simp only [Tryz.ntmps36, List.size_toArray, List.length_cons, List.length_nil, Nat.reduceAdd, Nat.reduceSub, Array.replicate_succ, Array.replicate_zero, List.push_toArray, List.append_toArray, List.nil_append, List.cons_append]
  refine wpIn_wide.2 ?_
  go_wp2_with fail
  have b2 := blk_new w (.cells #[.pointer (some ⟨bm, 0, none⟩)] 28)
  have b3 := blk_new (w.alloc (.cells #[.pointer (some ⟨bm, 0, none⟩)] 28)) (.cells #[.string key, .string v] 70)
  have b2 := blk_alloc b2 (.cells #[.string key, .string v] 70)
  rw [World.size_alloc] at b3
  have HK0 := hid ((Kp.al w (.cells #[.pointer (some ⟨bm, 0, none⟩)] 28)).trans (Kp.al _ (.cells #[.string key, .string v] 70)))
  obtain ⟨W1, hW1⟩ : ∃ W1, (w.alloc (.cells #[.pointer (some ⟨bm, 0, none⟩)] 28)).alloc (.cells #[.string key, .string v] 70) = W1 := ⟨_, rfl⟩
  have hsz1 : W1.heap.size = w.heap.size + 2 := by rw [← hW1]; simp
  rw [hW1] at b2 b3 HK0 ⊢
  clear hW1
  have HM1 := hid (HM.out.all HK0.out)
  have hc1 := blk_cell HM1.out.str
  have c2 := blk_cell b2
  have c3 := blk_cell b3
  have HB2 := hid b2; have HB3 := hid b3
  clear hc0 h b2 b3
  obtain ⟨X, hX⟩ : ∃ X, sipP k0 k1 key = X := ⟨_, rfl⟩
  rw [hX] at hsip
  have HX := hid hX
  clear hX
  refine wp_onN (fun a' w' => ∃ b, Hid (w'.heap[b]? = some (.cells #[.int .u8 ((X : Int) % 128)] 5 (0, 0)) ∧ W1.heap.size ≤ b) ∧ Hid (Kp All W1 w') ∧ a' = { tmps := #[.pointer (some ⟨bm, 0, none⟩), .agg #[.string key, .string v], .pointer (some ⟨w.heap.size, 0, none⟩), .pointer (some ⟨w.heap.size + 1, 0, none⟩), .int .u64 ((X : Int) / 128), .pointer (some ⟨b, 0, none⟩), undef, undef, undef, .tuple #[.int .u64 ((X : Int) / 128), .int .u8 ((X : Int) % 128)], .pointer (some ⟨bm, 0, none⟩), .pointer (some ⟨bm, 0, none⟩), .pointer (some ⟨bm, 0, none⟩), .agg #[.int .u64 k0, .int .u64 k1], .pointer (some ⟨w.heap.size + 1, 0, none⟩), .string key, .int .u64 X, .tuple #[.int .u64 ((X : Int) / 128), .int .u8 ((X : Int) % 128)], .int .u64 ((X : Int) / 128), .int .u8 ((X : Int) % 128), undef, undef, undef, undef, undef, undef, undef, undef, undef, undef, undef, undef, undef, undef, undef, undef, undef, undef, undef, undef, undef, undef, undef, undef, undef, undef, undef, undef, undef, undef, undef, undef, undef, undef, undef, undef, undef, undef, undef, undef, undef, undef, undef, undef, undef, undef, undef, undef, undef, undef, undef, undef, undef, undef, undef, undef, undef, undef, undef, undef, undef, undef, undef, undef, undef, undef, undef, undef, undef, undef], defers := [] }) ?_ ?_
  · have hmk : ∀ w', Kp All W1 w' → (∀ i, w'.cell? ⟨bm, i, none⟩ = (#[.int .u64 k0, .int .u64 k1, .slice (some ⟨bw, 0, none⟩) M.g cw, .slice (some ⟨bs, 0, none⟩) (8 * M.g) cs, .int .i64 M.cnt, .int .i64 M.tmb] : Array Value)[i]?) ∧ (∀ i, w'.cell? ⟨w.heap.size, i, none⟩ = (#[.pointer (some ⟨bm, 0, none⟩)] : Array Value)[i]?) ∧ (∀ i, w'.cell? ⟨w.heap.size + 1, i, none⟩ = (#[.string key, .string v] : Array Value)[i]?) ∧ Kp All W1 w' := fun w' k => ⟨blk_cell (k.heap HM1.out.str trivial), blk_cell (k.heap HB2.out trivial), blk_cell (k.heap HB3.out trivial), k⟩
    have HMK := hid hmk
    clear hmk
    go_region_held3 (fun w' => (∀ i, w'.cell? ⟨bm, i, none⟩ = (#[.int .u64 k0, .int .u64 k1, .slice (some ⟨bw, 0, none⟩) M.g cw, .slice (some ⟨bs, 0, none⟩) (8 * M.g) cs, .int .i64 M.cnt, .int .i64 M.tmb] : Array Value)[i]?) ∧ (∀ i, w'.cell? ⟨w.heap.size, i, none⟩ = (#[.pointer (some ⟨bm, 0, none⟩)] : Array Value)[i]?) ∧ (∀ i, w'.cell? ⟨w.heap.size + 1, i, none⟩ = (#[.string key, .string v] : Array Value)[i]?) ∧ Kp All W1 w') (first | assumption | exact HMK.out _ (Kp.refl _ _).drew | (refine HMK.out _ ?_; first | exact HKS.out | exact HKS.out.alloc _ | exact HKS.out.setNew (Nat.le_of_eq hsz1) _ | exact (by assumption : _ ∧ _ ∧ _ ∧ Kp All W1 _).2.2.2.alloc _ | (refine (by assumption : _ ∧ _ ∧ _ ∧ Kp All W1 _).2.2.2.setNew ?_ _; simp only [World.size_alloc, World.size_drew]; omega))) (first | (go_at_call 64; refine (split_any X hsip _).mono ?_; rintro e w' ⟨rfl, rfl⟩) | (go_at_call 65; refine (sum_sip k0 k1 h0 h1 key hkey _).mono ?_; rintro e wS ⟨rfl, hkS⟩; rw [HX.out]; have HKS := hid ((by assumption : _ ∧ _ ∧ _ ∧ Kp All W1 _).2.2.2.trans hkS); have HKL := hid hkS; (try (have hbx : wS.heap[W1.heap.size]? = some (.cells #[.int .u8 0] 5 (0, 0)) := hkS.heap (blk_new W1.drew _) trivial; rw [hsz1] at hbx; have cbx := blk_cell hbx; have fbx := blk_free hbx; have HBX := hid hbx; clear hbx)); clear hkS))
    all_goals first | exact ⟨_, hid ⟨blk_new _ _, HKS.out.size⟩, hid (HKS.out.alloc _), rfl⟩ | exact ⟨w.heap.size + 2, hid ⟨blk_set HBX.out 0 _, Nat.le_of_eq hsz1⟩, hid (HKS.out.setNew (Nat.le_of_eq hsz1) _), rfl⟩
  rintro _ W2 ⟨b, HB, HK2, rfl⟩
  have HM2 := hid (HM1.out.all HK2.out)
  have hc2 := blk_cell HM2.out.str
  have c22 := blk_cell (HK2.out.heap HB2.out trivial)
  have c23 := blk_cell (HK2.out.heap HB3.out trivial)
  have c2b := blk_cell HB.out.1
  clear hc1 c2 c3
  go_wp2_with (go_at_call 66; refine (seq_any _ _ _).mono ?_; rintro e w' ⟨rfl, rfl⟩)
  have bh := blk_new W2 (.cells #[.int .u64 ((X : Int) / 128)] 22)
  have bg := blk_new (W2.alloc (.cells #[.int .u64 ((X : Int) / 128)] 22)) (.cells #[.int .i64 M.g] 3)
  have bh := blk_alloc bh (.cells #[.int .i64 M.g] 3)
  rw [World.size_alloc] at bg
  have k5 := (Kp.al W2 (.cells #[.int .u64 ((X : Int) / 128)] 22)).trans (Kp.al _ (.cells #[.int .i64 M.g] 3))
  obtain ⟨W5, hW5⟩ : ∃ W5, (W2.alloc (.cells #[.int .u64 ((X : Int) / 128)] 22)).alloc (.cells #[.int .i64 M.g] 3) = W5 := ⟨_, rfl⟩
  have hsz5 : W5.heap.size = W2.heap.size + 2 := by rw [← hW5]; simp
  rw [hW5] at bg bh k5 ⊢
  clear hW5
  have HM5 := hid (HM2.out.all k5)
  have HB25 := hid (k5.heap (HK2.out.heap HB2.out trivial) trivial)
  have HB35 := hid (k5.heap (HK2.out.heap HB3.out trivial) trivial)
  have HBb5 := hid (k5.heap HB.out.1 trivial)
  have HK5 : Hid (Kp All w W5) := hid (HK0.out.trans (HK2.out.trans k5))
  clear hc2 c22 c23 c2b k5 HM2 HM1
  have hx7 : X / 128 < 18446744073709551616 := by omega
  have hseq := seq_stops 4 (by omega) (X / 128) M.g (W2.heap.size + 1) W2.heap.size HP.out.pow hx7 W5 bg (by simpa using bh)
  have hbmW : bm < W5.heap.size := blk_lt HM5.out.str
  have hbwW : bw < W5.heap.size := by obtain ⟨_, e, _⟩ := HM5.out.wds; exact blk_lt e
  have hbsW : bs < W5.heap.size := by obtain ⟨_, e, _⟩ := HM5.out.sls; exact blk_lt e
  have HSZ := hid hsz1
  clear hsz1
  refine (wpIn_wide (n := 5)).1 ?_
  refine wpIn_rangeFunc_ownG rfl (by omega) (gf := 99) (lb := #[.pointer (some ⟨W2.heap.size + 1, 0, none⟩), .pointer (some ⟨W2.heap.size, 0, none⟩)]) rfl trivial (enters_of Tryz.func99 (by kernel_rfl) rfl)
    (encs := fun x : Fin M.g => #[.int .i64 x.val]) (Kp := Kc) hseq Kc.trans (fun W l o o' _ h hc _ => Kc.putObj h hc) (Below.refl _ _) (fun _ => rfl)
    (fun pre W => Kp All W5 W ∧ ∀ rest, layL M.ctrl (pre.map (·.val) ++ rest) = layL M.ctrl rest)
    (fun c pre W => c = .ret ∧ ∃ i : Nat, (∃ n t, Mr k0 k1 bm bw cw bs cs M.g (M.ctrl.set i (X % 128)) (M.slots.set i (key, v)) n t W ∧ n = M.cnt + 1 ∧ t = ((layAt M i (X % 128) (key, v)).tmb : Int)) ∧ Kp (fun k => k ≠ bm ∧ k ≠ bw ∧ k ≠ bs) W5 W ∧ ∀ rest, layL M.ctrl (pre.map (·.val) ++ rest) = some i)
    (fun s A B row h hg hr => ⟨h.1.then (Kp.grown hg) (fun i hi _ e => by have := (hr i e.symm).1; omega), h.2⟩)
    (fun c s A B row h hg hr => by
      obtain ⟨e, i, ⟨n, t, h1, hn, ht⟩, h2, h3⟩ := h
      have hk : Kp (fun k => k < W5.heap.size) A B := (Kp.grown hg).mono (fun i hi hlt e => by have := (hr i e.symm).1; omega)
      exact ⟨e, i, ⟨n, t, h1.kept hk hbmW hbwW hbsW, hn, ht⟩, h2.then hk (fun i hi _ => hi), h3⟩)
    ⟨Kp.refl _ _, fun _ => rfl⟩
    (fun x => { tmps := #[.pointer (some ⟨bm, 0, none⟩), .agg #[.string key, .string v], .pointer (some ⟨w.heap.size, 0, none⟩), .pointer (some ⟨w.heap.size + 1, 0, none⟩), .int .u64 ((X : Int) / 128), .pointer (some ⟨b, 0, none⟩), .int .i64 x.val, undef, undef, .tuple #[.int .u64 ((X : Int) / 128), .int .u8 ((X : Int) % 128)], .pointer (some ⟨bm, 0, none⟩), .pointer (some ⟨bm, 0, none⟩), .pointer (some ⟨bm, 0, none⟩), .agg #[.int .u64 k0, .int .u64 k1], .pointer (some ⟨w.heap.size + 1, 0, none⟩), .string key, .int .u64 X, .tuple #[.int .u64 ((X : Int) / 128), .int .u8 ((X : Int) % 128)], .int .u64 ((X : Int) / 128), .int .u8 ((X : Int) % 128), .int .u64 ((X : Int) / 128), .pointer (some ⟨bm, 0, none⟩), .pointer (some ⟨bm, 0, none⟩), .pointer (some ⟨bm, 2, none⟩), .slice (some ⟨bw, 0, none⟩) M.g cw, .int .i64 M.g, .func (.func 99) #[] #[.pointer (some ⟨W2.heap.size + 1, 0, none⟩), .pointer (some ⟨W2.heap.size, 0, none⟩)], .int .i64 x.val, undef, undef, undef, undef, undef, undef, undef, undef, undef, undef, undef, undef, undef, undef, undef, undef, undef, undef, undef, undef, undef, undef, undef, undef, undef, undef, undef, undef, undef, undef, undef, undef, undef, undef, undef, undef, undef, undef, undef, undef, undef, undef, undef, undef, undef, undef, undef, undef, undef, undef, undef, undef, undef, undef, undef, undef, undef, undef, undef, undef, undef, undef], defers := [] }) ?assign ?body ?done ?stop
  case assign =>
    intro l x W K hK
    gi_wp2
    exact hK
  case body =>
    rintro l pre x W ⟨hK, hF⟩ hlt
    have hMW := HM5.out.all hK
    have hxg := x.isLt
    have hcm := blk_cell hMW.str
    have cw2 := blk_cell (hK.heap HB25.out trivial)
    have cw3 := blk_cell (hK.heap HB35.out trivial)
    have cwb := blk_cell (hK.heap HBb5.out trivial)
    have hwd := hMW.word rfl hxg
    obtain ⟨q, hq⟩ : ∃ q, x.val = q := ⟨_, rfl⟩
    rw [hq] at hwd hxg
    simp only [hq]
    have HQ := hid hq
    clear hq
    have hg1 := HP.out.g1
    have j0 : (0 : Int) ≤ (q : Int) := by omega
    have j1 : (q : Int) < (M.g : Int) := by omega
    have j2 : (M.g : Int) ≤ 1024 := by omega
    have hFt : ∀ k w, CallsIn (Fence.wide.inRound l) k Tryz.prog 71 #[.int .u64 (wd (grp M.ctrl q))] w fun e w' => e = .returned (.int .u8 (free M.ctrl q)) ∧ w' = w := fun k w => CallsIn.inRound l (callsIn_wide.2 (free_any (grp M.ctrl q) (HP.out.gb q) (HP.out.g8 hxg) w))
    have hS0 : free M.ctrl q < 2 ^ 8 := by
      have := bits_lt (fun b => b == 128 || b == 254) (grp M.ctrl q)
      rwa [HP.out.g8 hxg] at this
    have hll : Hid (∀ rest, layL M.ctrl (q :: rest) = match els (free M.ctrl q) with
      | [] => layL M.ctrl rest
      | i :: _ => some (8 * q + i)) := hid fun rest => rfl
    have hgset := fun j (hj : j < 8) k w (hg : Gs w) => CallsIn.inRound (F := Fence.wide) (n := k) l (callsIn_wide.2 (gget_any (grp M.ctrl q) (HP.out.gb q) (HP.out.g8 hxg) j (by omega) w hg))
    have hst2 : ∀ (j : Nat), j < 8 → ∀ k w, Gs w → CallsIn Fence.wide k Tryz.prog 41 #[.int .u64 (wd (grp M.ctrl q)), .int .i64 j, .int .u8 ((X : Int) % 128)] w fun e w' => e = .returned (.int .u64 (wd ((grp M.ctrl q).set (j % 8) (X % 128)))) ∧ w' = w := fun j hj k w hg => by
      have := gset_any (grp M.ctrl q) (HP.out.gb q) (HP.out.g8 hxg) j (X % 128) (by omega) (by omega) w hg
      rw [show ((X % 128 : Nat) : Int) = (X : Int) % 128 from by omega] at this
      exact callsIn_wide.2 this
    have helm : Hid (∀ j, j ∈ els (free M.ctrl q) → j < 8 ∧ ∃ b, (grp M.ctrl q)[j]? = some b ∧ (b = 128 ∨ b = 254)) := hid fun j hj => by
      obtain ⟨h1, b, h2, h3⟩ := mem_els.1 hj
      exact ⟨h1, b, h2, by simpa using h3⟩
    obtain ⟨S0, hS⟩ : ∃ S0, free M.ctrl q = S0 := ⟨_, rfl⟩
    rw [hS] at hFt hS0 hll helm
    obtain ⟨wq, hwq⟩ : ∃ wq, wd (grp M.ctrl q) = wq := ⟨_, rfl⟩
    simp only [hwq] at hFt hwd hgset hst2
    have HWQ := hid hwq
    clear hS hwq
    have HFT := hid hFt; have HK := hid hK; have HF := hid hF; have HMW := hid hMW; have HGG := hid hgset; have HSS := hid hst2
    have hf1 : Fence.wide.fn 71 := trivial
    have hf2 : Fence.wide.fn 72 := trivial
    have hf3 : Fence.wide.fn 69 := trivial
    have hf4 : Fence.wide.fn 41 := trivial
    have hGW : Gs W := HGS.out.all (HK5.out.trans hK)
    have HGW := hid hGW
    clear hFt hK hF hMW hgset hst2 hGW
    by_cases hz : S0 = 0
    · have d1 : ((S0 : Int) == 0) = true := by rw [hz]; rfl
      have hfin : Hid (∀ rest, layL M.ctrl ((pre ++ [x]).map (·.val) ++ rest) = layL M.ctrl rest) := hid fun rest => by
        rw [List.map_append, List.append_assoc]
        show layL M.ctrl (pre.map (·.val) ++ (x.val :: rest)) = _
        rw [HF.out, HQ.out, hll.out, hz, els_zero]
      clear HF hll
      gi_wp2_with (gi_at_call 71; refine (HFT.out _ _).mono ?_; rintro e w1 ⟨rfl, rfl⟩)
      exact ⟨kf_of (Kp.refl _ _), Kc.refl _, HK.out, hfin.out⟩
    · have d1 : ((S0 : Int) == 0) = false := by simp; omega
      obtain ⟨j, hj, hj8⟩ := els_next ⟨S0, hS0⟩ hz
      simp only at hj
      obtain ⟨_, bb, hbb, hbb2⟩ := helm.out j (by rw [hj]; exact List.mem_cons_self ..)
      have hF1 : ∀ k w, CallsIn (Fence.wide.inRound l) k Tryz.prog 69 #[.int .u8 S0] w fun e w' => e = .returned (.int .i64 j) ∧ w' = w := fun k w => CallsIn.inRound l (callsIn_wide.2 (first_any S0 j _ hS0 hj w))
      have hfin : Hid (∀ rest, layL M.ctrl ((pre ++ [x]).map (·.val) ++ rest) = some (8 * q + j)) := hid fun rest => by
        rw [List.map_append, List.append_assoc]
        show layL M.ctrl (pre.map (·.val) ++ (x.val :: rest)) = _
        rw [HF.out, HQ.out, hll.out, hj]
      have HG1 := hid (fun k w hg => HGG.out j hj8 k w hg)
      have HS1 := hid (fun k w hg => HSS.out j hj8 k w hg)
      rw [show j % 8 = j from Nat.mod_eq_of_lt hj8, getD_of hbb] at HG1
      rw [show j % 8 = j from Nat.mod_eq_of_lt hj8] at HS1
      have HF1 := hid hF1
      clear HF hll helm HGG HSS hj hF1
      have hcnt := layAt_cnt (s := (key, v)) (M := M) (i := 8 * q + j) (c := X % 128) (b := bb) (by rw [← grp_get hj8]; exact hbb) hbb2 (by omega)
      have HCN := hid hcnt
      have hcn1 := hcn.1; have hcn2 := hcn.2
      have jj0 : (0 : Int) ≤ (j : Int) := by omega
      have jj1 : (j : Int) < 8 := by omega
      clear hcnt
      have zb : bm < w.heap.size ∧ bw < w.heap.size ∧ bs < w.heap.size := by
        obtain ⟨_, e1, _⟩ := HM.out.wds
        obtain ⟨_, e2, _⟩ := HM.out.sls
        exact ⟨blk_lt HM.out.str, blk_lt e1, blk_lt e2⟩
      have zb1 := zb.1; have zb2 := zb.2.1; have zb3 := zb.2.2
      have zW : w.heap.size ≤ b := Nat.le_trans HK0.out.size HB.out.2
      have zd1 := HM.out.d1; have zd2 := HM.out.d2; have zd3 := HM.out.d3
      have ZB := hid (show bm < w.heap.size ∧ bw < w.heap.size ∧ bs < w.heap.size ∧ w.heap.size ≤ b from ⟨zb1, zb2, zb3, zW⟩)
      clear zb zb1 zb2 zb3 zW
      rcases hbb2 with rfl | rfl
      · have d2 : (((128 : Nat) : Int) == 254) = false := rfl
        gi_wp2_with (first | (gi_at_call 71; refine (HFT.out _ _).mono ?_; rintro e w1 ⟨rfl, hw⟩; have hw := hw.symm; subst hw) | (gi_at_call 69; refine (HF1.out _ _).mono ?_; rintro e w1 ⟨rfl, hw⟩; have hw := hw.symm; subst hw) | (gi_at_call 72; refine (HG1.out _ _ HGW.out).mono ?_; rintro e w1 ⟨rfl, hw⟩; have hw := hw.symm; subst hw))
        obtain ⟨V, hV⟩ : ∃ V, V = W := ⟨_, rfl⟩
        rw [← hV]
        have HMV : Hid (Mr k0 k1 bm bw cw bs cs M.g M.ctrl M.slots M.cnt ((layAt M (8 * q + j) (X % 128) (key, v)).tmb : Int) V) := hid (by
          have h1 := HCN.out.2.1
          have h2 := HMW.out
          rw [hV, show ((layAt M (8 * q + j) (X % 128) (key, v)).tmb) = M.tmb from by simpa using h1]
          exact h2)
        have HKV : Hid (Kp (fun k => k ≠ bm ∧ k ≠ bw ∧ k ≠ bs) W V) := hid (by rw [hV]; exact Kp.refl _ _)
        clear hV
        have hcv := blk_cell HMV.out.str
        have cv2 := blk_cell (HKV.out.heap (HK.out.heap HB25.out trivial) (by have := ZB.out; exact ⟨by omega, by omega, by omega⟩))
        have bv3 := HKV.out.heap (HK.out.heap HB35.out trivial) (by have := ZB.out; exact ⟨by omega, by omega, by omega⟩)
        have cv3 := blk_cell bv3
        have HB3V := hid bv3
        have cvb := blk_cell (HKV.out.heap (HK.out.heap HBb5.out trivial) (by have := ZB.out; exact ⟨by omega, by omega, by omega⟩))
        have hwv := HMV.out.word rfl hxg
        rw [HWQ.out] at hwv
        have HGV : Hid (Gs V) := hid (HGW.out.kept HKV.out ⟨Ne.symm HMV.out.z1, Ne.symm HMV.out.z2, Ne.symm HMV.out.z3⟩)
        clear hcm cw2 cw3 cwb hwd bv3
        have fw : ∃ cur, V.heap[bw]? = some (.cells cur 22 (0, 0)) := by obtain ⟨c, e, _⟩ := HMV.out.wds; exact ⟨c, e⟩
        obtain ⟨cur, hcur⟩ := fw
        have fwf := blk_free hcur
        clear hcur
        refine wpIn_region_lastR (F := Fence.wide) (by kernel_rfl) (by kernel_rfl) (by kernel_rfl) (by kernel_rfl) ?_; simp only [List.length_cons, List.length_nil, Nat.zero_add, Nat.reduceAdd, Nat.reduceSub, List.take_succ_cons, List.take_zero, List.drop_succ_cons, List.drop_zero]
        repeat (quiet_step_in ((gi_at_call 41; refine CallsIn.quiet_of_same (HS1.out _ _ (HGV.out.all ((Kp.refl _ _).drewN _))))))
        refine wpQuietIn_nil ?_; intro _ hw'; obtain ⟨nq, hw''⟩ := hw'; subst hw''
        gi_wp2
        obtain ⟨U, hU⟩ : ∃ U, (V.drewN nq).setCell ⟨bw, q, none⟩ (.int .u64 (wd ((grp M.ctrl q).set j (X % 128)))) = U := ⟨_, rfl⟩
        rw [hU]
        have HMU : Hid (Mr k0 k1 bm bw cw bs cs M.g (M.ctrl.set (8 * q + j) (X % 128)) M.slots M.cnt ((layAt M (8 * q + j) (X % 128) (key, v)).tmb : Int) U) := hid (by rw [← hU]; exact (HMV.out.all ((Kp.refl _ _).drewN _)).setW rfl hj8 hxg)
        have HKU : Hid (Kp (fun k => k ≠ bm ∧ k ≠ bw ∧ k ≠ bs) W U) := hid (by rw [← hU]; exact (HKV.out.drewN _).setOut (by simp) _)
        clear hU hcv cv2 cv3 cvb hwv fwf
        have hcu := blk_cell HMU.out.str
        have fcu := blk_free HMU.out.str
        have cu2 := blk_cell (HKU.out.heap (HK.out.heap HB25.out trivial) (by have := ZB.out; exact ⟨by omega, by omega, by omega⟩))
        have cu3 := blk_cell (HKU.out.heap (HK.out.heap HB35.out trivial) (by have := ZB.out; exact ⟨by omega, by omega, by omega⟩))
        have fs : ∃ cur, U.heap[bs]? = some (.cells cur 70 (0, 0)) ∧ cur.size = cs * 2 := by obtain ⟨c, e, e2, _⟩ := HMU.out.sls; exact ⟨c, e, e2⟩
        obtain ⟨cur2, hcur2, hcz⟩ := fs
        have fsf := blk_free hcur2
        have hcsl := HMU.out.csl
        obtain ⟨jj, hjj⟩ : ∃ jj, 8 * q + j = jj := ⟨_, rfl⟩
        have hjI : 8 * (q : Int) + (j : Int) = (jj : Int) := by omega
        have g0 : (0 : Int) ≤ (jj : Int) := by omega
        have g1 : (jj : Int) < 8 * (M.g : Int) := by omega
        have fc1 : ∃ u, U.cell? ⟨bs, jj * 2, none⟩ = some u := ⟨_, by rw [blk_cell hcur2]; exact Array.getElem?_eq_getElem (by omega)⟩
        have fc2 : ∃ u, U.cell? ⟨bs, jj * 2 + 1, none⟩ = some u := ⟨_, by rw [blk_cell hcur2]; exact Array.getElem?_eq_getElem (by omega)⟩
        obtain ⟨u1, fc1⟩ := fc1
        obtain ⟨u2, fc2⟩ := fc2
        have hw1 : IntKind.i64.wrap (8 * (q : Int)) = 8 * (q : Int) := IntWalk.i64_in _ (by omega)
        have hw3 : IntKind.i64.wrap (jj : Int) = (jj : Int) := IntWalk.i64_in _ (by omega)
        have hw2 : IntKind.i64.wrap (8 * (q : Int) + (j : Int)) = (jj : Int) := by rw [hjI]; exact hw3
        have hne1 : ¬ w.heap.size = bs := by have := ZB.out; omega
        have hne2 : ¬ bs = w.heap.size := by have := ZB.out; omega
        have hne3 : ¬ bs = bm := Ne.symm zd2
        have HJJ := hid hjj
        rw [hjj] at HMU hfin HCN
        clear hcur2 hjj
        refine wpIn_region_lastR (F := Fence.wide) (by kernel_rfl) (by kernel_rfl) (by kernel_rfl) (by kernel_rfl) ?_; simp only [List.length_cons, List.length_nil, Nat.zero_add, Nat.reduceAdd, Nat.reduceSub, List.take_succ_cons, List.take_zero, List.drop_succ_cons, List.drop_zero]
        repeat (quiet_step_in (fail))
        refine wpQuietIn_nil ?_; intro _ hw'; obtain ⟨nq, hw''⟩ := hw'; subst hw''
        gi_wp2
        have hkw := (((HKU.out.drewN nq).setOut (b := bs) (i := jj * 2) (by simp) (.string key)).setOut (b := bs) (i := jj * 2 + 1) (by simp) (.string v)).setOut (b := bm) (i := 4) (by simp) (.int .i64 ((M.cnt : Int) + 1))
        exact ⟨kf_lt hkw (fun i hi => ⟨by omega, by omega, by omega⟩), rfl, jj, ⟨_, _, ((HMU.out.all ((Kp.refl _ _).drewN _)).setS jj (key, v)).setN _, rfl, rfl⟩, (HK.out.all).trans hkw, hfin.out⟩
      · have d2 : (((254 : Nat) : Int) == 254) = true := rfl
        have hp1 : 1 ≤ M.tmb := by have := HCN.out.2.1; simp at this; omega
        have fbm := blk_free HMW.out.str
        gi_wp2_with (first | (gi_at_call 71; refine (HFT.out _ _).mono ?_; rintro e w1 ⟨rfl, hw⟩; have hw := hw.symm; subst hw) | (gi_at_call 69; refine (HF1.out _ _).mono ?_; rintro e w1 ⟨rfl, hw⟩; have hw := hw.symm; subst hw) | (gi_at_call 72; refine (HG1.out _ _ HGW.out).mono ?_; rintro e w1 ⟨rfl, hw⟩; have hw := hw.symm; subst hw))
        obtain ⟨V, hV⟩ : ∃ V, V = W.setCell ⟨bm, 5, none⟩ (.int .i64 ((M.tmb : Int) - 1)) := ⟨_, rfl⟩
        rw [← hV]
        have HMV : Hid (Mr k0 k1 bm bw cw bs cs M.g M.ctrl M.slots M.cnt ((layAt M (8 * q + j) (X % 128) (key, v)).tmb : Int) V) := hid (by
          have h1 := HCN.out.2.1
          have h2 := HMW.out.setT ((M.tmb : Int) - 1)
          simp only [if_true] at h1
          rw [hV, show ((layAt M (8 * q + j) (X % 128) (key, v)).tmb : Int) = (M.tmb : Int) - 1 from by omega]
          exact h2)
        have HKV : Hid (Kp (fun k => k ≠ bm ∧ k ≠ bw ∧ k ≠ bs) W V) := hid (by rw [hV]; exact (Kp.refl _ _).setOut (by simp) _)
        clear hV fbm
        have hcv := blk_cell HMV.out.str
        have cv2 := blk_cell (HKV.out.heap (HK.out.heap HB25.out trivial) (by have := ZB.out; exact ⟨by omega, by omega, by omega⟩))
        have bv3 := HKV.out.heap (HK.out.heap HB35.out trivial) (by have := ZB.out; exact ⟨by omega, by omega, by omega⟩)
        have cv3 := blk_cell bv3
        have HB3V := hid bv3
        have cvb := blk_cell (HKV.out.heap (HK.out.heap HBb5.out trivial) (by have := ZB.out; exact ⟨by omega, by omega, by omega⟩))
        have hwv := HMV.out.word rfl hxg
        rw [HWQ.out] at hwv
        have HGV : Hid (Gs V) := hid (HGW.out.kept HKV.out ⟨Ne.symm HMV.out.z1, Ne.symm HMV.out.z2, Ne.symm HMV.out.z3⟩)
        clear hcm cw2 cw3 cwb hwd bv3
        have fw : ∃ cur, V.heap[bw]? = some (.cells cur 22 (0, 0)) := by obtain ⟨c, e, _⟩ := HMV.out.wds; exact ⟨c, e⟩
        obtain ⟨cur, hcur⟩ := fw
        have fwf := blk_free hcur
        clear hcur
        refine wpIn_region_lastR (F := Fence.wide) (by kernel_rfl) (by kernel_rfl) (by kernel_rfl) (by kernel_rfl) ?_; simp only [List.length_cons, List.length_nil, Nat.zero_add, Nat.reduceAdd, Nat.reduceSub, List.take_succ_cons, List.take_zero, List.drop_succ_cons, List.drop_zero]
        repeat (quiet_step_in ((gi_at_call 41; refine CallsIn.quiet_of_same (HS1.out _ _ (HGV.out.all ((Kp.refl _ _).drewN _))))))
        refine wpQuietIn_nil ?_; intro _ hw'; obtain ⟨nq, hw''⟩ := hw'; subst hw''
        gi_wp2
        obtain ⟨U, hU⟩ : ∃ U, (V.drewN nq).setCell ⟨bw, q, none⟩ (.int .u64 (wd ((grp M.ctrl q).set j (X % 128)))) = U := ⟨_, rfl⟩
        rw [hU]
        have HMU : Hid (Mr k0 k1 bm bw cw bs cs M.g (M.ctrl.set (8 * q + j) (X % 128)) M.slots M.cnt ((layAt M (8 * q + j) (X % 128) (key, v)).tmb : Int) U) := hid (by rw [← hU]; exact (HMV.out.all ((Kp.refl _ _).drewN _)).setW rfl hj8 hxg)
        have HKU : Hid (Kp (fun k => k ≠ bm ∧ k ≠ bw ∧ k ≠ bs) W U) := hid (by rw [← hU]; exact (HKV.out.drewN _).setOut (by simp) _)
        clear hU hcv cv2 cv3 cvb hwv fwf
        have hcu := blk_cell HMU.out.str
        have fcu := blk_free HMU.out.str
        have cu2 := blk_cell (HKU.out.heap (HK.out.heap HB25.out trivial) (by have := ZB.out; exact ⟨by omega, by omega, by omega⟩))
        have cu3 := blk_cell (HKU.out.heap (HK.out.heap HB35.out trivial) (by have := ZB.out; exact ⟨by omega, by omega, by omega⟩))
        have fs : ∃ cur, U.heap[bs]? = some (.cells cur 70 (0, 0)) ∧ cur.size = cs * 2 := by obtain ⟨c, e, e2, _⟩ := HMU.out.sls; exact ⟨c, e, e2⟩
        obtain ⟨cur2, hcur2, hcz⟩ := fs
        have fsf := blk_free hcur2
        have hcsl := HMU.out.csl
        obtain ⟨jj, hjj⟩ : ∃ jj, 8 * q + j = jj := ⟨_, rfl⟩
        have hjI : 8 * (q : Int) + (j : Int) = (jj : Int) := by omega
        have g0 : (0 : Int) ≤ (jj : Int) := by omega
        have g1 : (jj : Int) < 8 * (M.g : Int) := by omega
        have fc1 : ∃ u, U.cell? ⟨bs, jj * 2, none⟩ = some u := ⟨_, by rw [blk_cell hcur2]; exact Array.getElem?_eq_getElem (by omega)⟩
        have fc2 : ∃ u, U.cell? ⟨bs, jj * 2 + 1, none⟩ = some u := ⟨_, by rw [blk_cell hcur2]; exact Array.getElem?_eq_getElem (by omega)⟩
        obtain ⟨u1, fc1⟩ := fc1
        obtain ⟨u2, fc2⟩ := fc2
        have hw1 : IntKind.i64.wrap (8 * (q : Int)) = 8 * (q : Int) := IntWalk.i64_in _ (by omega)
        have hw3 : IntKind.i64.wrap (jj : Int) = (jj : Int) := IntWalk.i64_in _ (by omega)
        have hw2 : IntKind.i64.wrap (8 * (q : Int) + (j : Int)) = (jj : Int) := by rw [hjI]; exact hw3
        have hne1 : ¬ w.heap.size = bs := by have := ZB.out; omega
        have hne2 : ¬ bs = w.heap.size := by have := ZB.out; omega
        have hne3 : ¬ bs = bm := Ne.symm zd2
        have HJJ := hid hjj
        rw [hjj] at HMU hfin HCN
        clear hcur2 hjj
        refine wpIn_region_lastR (F := Fence.wide) (by kernel_rfl) (by kernel_rfl) (by kernel_rfl) (by kernel_rfl) ?_; simp only [List.length_cons, List.length_nil, Nat.zero_add, Nat.reduceAdd, Nat.reduceSub, List.take_succ_cons, List.take_zero, List.drop_succ_cons, List.drop_zero]
        repeat (quiet_step_in (fail))
        refine wpQuietIn_nil ?_; intro _ hw'; obtain ⟨nq, hw''⟩ := hw'; subst hw''
        gi_wp2
        have hkw := (((HKU.out.drewN nq).setOut (b := bs) (i := jj * 2) (by simp) (.string key)).setOut (b := bs) (i := jj * 2 + 1) (by simp) (.string v)).setOut (b := bm) (i := 4) (by simp) (.int .i64 ((M.cnt : Int) + 1))
        exact ⟨kf_lt hkw (fun i hi => ⟨by omega, by omega, by omega⟩), rfl, jj, ⟨_, _, ((HMU.out.all ((Kp.refl _ _).drewN _)).setS jj (key, v)).setN _, rfl, rfl⟩, (HK.out.all).trans hkw, hfin.out⟩
  case done =>
    rintro D ys W hD hS ⟨hK, hF⟩ hDD
    have := hF []
    rw [hS, List.append_nil] at this
    exact absurd (by rw [HX.out, this]; rfl) HFR.out
  case stop =>
    rintro D c pre W hD hS ⟨rfl, i, ⟨n, t, h1, hn, ht⟩, h2, h3⟩ hDD
    have hfin : layL M.ctrl (seqP (X / 128) M.g) = some i := by
      obtain ⟨t, ht, hpre⟩ := hS
      have := h3 ((seqP (X / 128) M.g).drop (t + 1))
      rw [hpre, List.take_append_drop] at this
      exact this
    have HKW := hid h2
    have HD := hid hDD
    have HMR := hid h1
    clear h2 h3 hDD h1
    gi_wp2
    refine ⟨by simp, .inl ⟨_, _, rfl, run_takeDeferred HD.out, ?_⟩⟩
    obtain ⟨b', hb1, hb2⟩ := layL_get hfin
    have hcnt := layAt_cnt (s := (key, v)) hb1 hb2 (show X % 128 < 128 by omega)
    have hdef : layP (sipP k0 k1) M (key, v) = layAt M i (X % 128) (key, v) := by
      unfold layP
      simp only [HX.out, hfin]
      rfl
    have hkd : Kp (fun k => k ≠ D) W (W.putObj D (.deferred none)) := (Kp.refl _ W).setHeap (fun _ h => h rfl) _
    refine ⟨_, results_none rfl _ _ _, rfl, ?_, ?_⟩
    · rw [hdef]
      show Mr k0 k1 bm bw cw bs cs (layAt M i (X % 128) (key, v)).g (layAt M i (X % 128) (key, v)).ctrl (layAt M i (X % 128) (key, v)).slots (layAt M i (X % 128) (key, v)).cnt (layAt M i (X % 128) (key, v)).tmb _
      rw [hcnt.2.2, show (((layAt M i (X % 128) (key, v)).cnt : Nat) : Int) = n from by rw [hcnt.1, hn]; omega, ← ht]
      exact HMR.out.kept hkd (by omega) (by omega) (by omega)
    · exact ((HK5.out.all).trans HKW.out).setHeap (fun h => by have := HK5.out.size; omega) _
end Go.Proofs.YtodledidabdkaaaGreatDoor

namespace Go.Proofs.YtodledidabdkaaaGreatDoor
open Go.RowKit Go.Shelf V
set_option linter.unusedVariables false
set_option linter.unusedSimpArgs false
theorem mmade_yes {k0 k1 bm bw cw bs cs g : Nat} {c : List Nat} {l : List Slot} {n t : Int} (hg : 1 ≤ g) (w : World) (h : Mr k0 k1 bm bw cw bs cs g c l n t w) : Calls Tryz.prog 33 #[.pointer (some ⟨bm, 0, none⟩)] w fun e w' => e = .returned (.bool true) ∧ w' = w := by
  have c0 := blk_cell h.str
  have d1 : decide ((0 : Int) < (g : Int)) = true := decide_eq_true (by omega)
  clear h
  go_enter Tryz.func33, Tryz.ntmps33
  go_wp2
  go_ret
  exact ⟨congrArg (fun b => Ending.returned (.bool b)) (decide_eq_true (by omega)), rfl⟩
theorem mmade_nil (w : World) : Calls Tryz.prog 33 #[.pointer none] w fun e w' => e = .returned (.bool false) ∧ w' = w := by
  go_enter Tryz.func33, Tryz.ntmps33
  go_wp2
  go_ret
  exact ⟨rfl, rfl⟩
def getV (o : Option Tx) : Value := .tuple #[.string (o.getD ByteArray.empty), .bool o.isSome]
set_option maxRecDepth 100000 in
theorem mget_any (k0 k1 bm bw cw bs cs : Nat) (M : Mp) (hP : Pm M) (h0 : k0 < 18446744073709551616) (h1 : k1 < 18446744073709551616) (key : ByteArray) (hkey : key.size ≤ 9000000000000000000) (w : World) (h : Ms k0 k1 bm bw cw bs cs M w) (hin : ∀ i, findP (sipP k0 k1) M key = some i → i < 8 * M.g) :
    Calls Tryz.prog 110 #[.pointer (some ⟨bm, 0, none⟩), .string key] w fun e w' => e = .returned (getV (getP' (sipP k0 k1) M key)) ∧ Kp All w w' := by
  have HM := hid (mmade_yes hP.g1.1 w h)
  have HF := hid (find_any k0 k1 bm bw cw bs cs M hP h0 h1 key hkey w h)
  have HMS := hid h; have HIN := hid hin; have HPP := hid hP
  rw [show getP' (sipP k0 k1) M key = (findP (sipP k0 k1) M key).map (fun i => (M.slots.getD i zslot).2) from rfl]
  clear h hin
  go_enter Tryz.func110, Tryz.ntmps110
  go_wp2_with fail
  refine HM.out.mono ?_
  rintro e w' ⟨rfl, hw⟩
  subst hw
  go_wp2_with fail
  refine HF.out.mono ?_
  rintro e w2 ⟨rfl, hk⟩
  have HK := hid hk
  clear hk
  cases hf : findP (sipP k0 k1) M key with
  | none =>
    have d1 : decide ((-1 : Int) < 0) = true := by decide
    simp only [optV]
    go_wp2_with fail
    exact bodyPost_ret (v := .tuple #[.string ByteArray.empty, .bool false]) (by simp [results, Tryz.results110, go_sem]; rfl) rfl ⟨by rw [hf]; rfl, HK.out⟩
  | some i =>
    have hi := HIN.out i hf
    have hM2 := HMS.out.all HK.out
    have c0 := blk_cell hM2.str
    obtain ⟨_, s2⟩ := hM2.slot HPP.out.slen hi
    have d1 : decide ((i : Int) < 0) = false := decide_eq_false (by omega)
    have i0 : (0 : Int) ≤ (i : Int) := by omega
    have i1 : (i : Int) < 8 * (M.g : Int) := by omega
    simp only [optV]
    obtain ⟨vv, hvv⟩ : ∃ vv, (M.slots.getD i zslot).2 = vv := ⟨_, rfl⟩
    rw [hvv] at s2
    have HV := hid hvv
    clear hvv
    go_wp2_with fail
    exact bodyPost_ret (v := .tuple #[.string vv, .bool true]) (by simp [results, Tryz.results110, go_sem]) rfl ⟨by rw [hf, Option.map_some, HV.out]; rfl, HK.out⟩
end Go.Proofs.YtodledidabdkaaaGreatDoor

namespace Go.Proofs.YtodledidabdkaaaGreatDoor
open Go.RowKit Go.Shelf V
set_option linter.unusedVariables false
set_option linter.unusedSimpArgs false
set_option maxRecDepth 100000 in
theorem need_any (n : Nat) (hn : n ≤ 7000) (w : World) : Calls Tryz.prog 27 #[.int .i64 n] w fun e w' => (∃ g : Nat, (∃ k, k ≤ 10 ∧ g = 2 ^ k) ∧ e = .returned (.int .i64 g) ∧ n ≤ 7 * g ∧ (n ≤ 7 → g = 1)) ∧ w' = w := by
  go_enter Tryz.func27, Tryz.ntmps27
  go_wp2_with fail
  go_loopw [3] (fun g wr => ∃ k : Nat, k ≤ 10 ∧ g = .int .i64 ((2 ^ k : Nat) : Int) ∧ Hid (n ≤ 7 → k = 0) ∧ wr = w) (fun g _ => 2000 - (ivl g).toNat)
  case atStart => exact ⟨0, by omega, rfl, hid fun _ => rfl, rfl⟩
  case round =>
    obtain ⟨k, hk, rfl, H7, rfl⟩ := hrel
    obtain ⟨p1, p2, _⟩ := pow_good ⟨k, by omega⟩
    simp only at p1 p2
    obtain ⟨g, hg⟩ : ∃ g, 2 ^ k = g := ⟨_, rfl⟩
    rw [hg] at p1 p2 ⊢
    have HG := hid hg
    clear hg
    by_cases hlt : 7 * g < n
    · have d1 : decide (7 * (g : Int) < (n : Int)) = true := decide_eq_true (by omega)
      have hk9 : k ≤ 9 := by
        rcases Nat.lt_or_ge k 10 with h | h
        · omega
        · have : k = 10 := by omega
          have e := HG.out
          rw [this] at e
          omega
      obtain ⟨q1, q2, _⟩ := pow_good ⟨k + 1, by omega⟩
      simp only [Nat.pow_succ, HG.out] at q1 q2
      have d2 : decide ((1024 : Int) < (g : Int) * 2) = false := decide_eq_false (by omega)
      go_wp2_with fail
      refine ⟨⟨k + 1, by omega, ?_, hid fun h => by omega, trivial⟩, by simp [ivl]; omega⟩
      rw [Nat.pow_succ, HG.out]
      rfl
    · have d1 : decide (7 * (g : Int) < (n : Int)) = false := decide_eq_false (by omega)
      go_wp2_with fail
      go_ret
      exact ⟨⟨g, ⟨k, hk, HG.out.symm⟩, rfl, by omega, fun h => by rw [← HG.out, H7.out h]⟩, rfl⟩
set_option maxRecDepth 100000 in
theorem mul64_any (g : Nat) (hg : g ≤ 1024) (w : World) : Calls Tryz.prog 129 #[.int .u64 1, .int .u64 g] w fun e w' => e = .returned (.tuple #[.int .u64 0, .int .u64 g]) ∧ w' = w := by
  have h1 : bits .and .u64 (g : Int) 4294967295 = (g : Int) := by
    rw [show (4294967295 : Int) = ((4294967295 : Nat) : Int) from rfl, u64_and_nat _ _ (by omega) (by decide), show (4294967295 : Nat) = 2 ^ 32 - 1 from rfl, Nat.and_two_pow_sub_one_eq_mod]
    congr 1
    omega
  have h2 : (g : Int) / 4294967296 = 0 := by omega
  have h3 : bits .and .u64 1 4294967295 = 1 := by decide +kernel
  have h4 : bits .and .u64 0 4294967295 = 0 := by decide +kernel
  go_enter Tryz.func129, Tryz.ntmps129
  go_wp2_with fail
  refine bodyPost_ret (v := .tuple #[.int .u64 0, .int .u64 g]) (by simp [results, Tryz.results129, go_sem]) rfl ⟨rfl, rfl⟩
set_option maxRecDepth 100000 in
theorem mul_any (g : Nat) (hg : g ≤ 1024) (w : World) : Calls Tryz.prog 95 #[.int .u64 1, .int .u64 g] w fun e w' => e = .returned (.tuple #[.int .u64 0, .int .u64 g]) ∧ w' = w := by
  go_enter Tryz.func95, Tryz.ntmps95
  go_wp2_with fail
  refine (mul64_any g hg _).mono ?_
  rintro e w' ⟨rfl, rfl⟩
  go_wp2_with fail
  refine bodyPost_ret (v := .tuple #[.int .u64 0, .int .u64 g]) (by simp [results, Tryz.results95, go_sem]) rfl ⟨rfl, rfl⟩
theorem el64 : El Tryz.prog 59 22 1 8 (.int .u64 0) := ⟨Tryz.underlying59, by kernel_rfl, rfl, by decide, by decide⟩
def noneV : Value := .int .u64 9259542123273814144
def zeroV : Value := .int .u64 0
theorem mk_u64 (n : Nat) (hn : n ≤ 1024) (w : World) :
    (Instr.makeSlice 59 (.int .i64 (n : Int)) (.int .i64 (n : Int))).run Tryz.prog w = .ok (.slice (some ⟨w.heap.size, 0, none⟩) n n) (w.alloc (.cells (List.replicate n zeroV).toArray 22)) := by
  obtain ⟨i, hi, hz, hs, hb⟩ := info_parts el64.info
  have := run_make (P := Tryz.prog) w 59 22 i (.int .u64 0) el64.sl hi hz .i64 .i64 (n : Int) (n : Int) (by omega) (by omega) (by rw [hb]; omega) (by omega)
  have e : madeCells (Value.cells (.int .u64 0)) (n * 1) = (List.replicate n zeroV).toArray := by
    rw [Nat.mul_one, zeroV, ← toList_madeCells_one, Array.toArray_toList]; rfl
  rw [this, hs, Int.toNat_natCast, e]
theorem none_one : ∀ v ∈ [noneV], v.oneCell' = true := by
  intro v hv
  simp at hv
  subst hv
  rfl
/-- a row that is filled up to m -/
def filled (g m : Nat) : List Value := List.replicate m noneV ++ List.replicate (g - m) zeroV
theorem filled_splice {g m k : Nat} (h : m + k ≤ g) : splice (filled g m) m (List.replicate k noneV) = filled g (m + k) := by
  unfold splice filled
  rw [List.take_append_of_le_length (by simp), List.take_of_length_le (by simp), List.drop_append, List.drop_eq_nil_of_le (by simp), List.nil_append, List.length_replicate, List.length_replicate, List.drop_replicate, ← List.append_assoc]
  rw [List.replicate_append_replicate, show g - m - (m + k - m) = g - (m + k) from by omega]
theorem Kp.setRow {S : Nat → Prop} {a w : World} (h : Kp S a w) {g : Nat} (hp : g < a.heap.size → ¬ S g) (cs : Array Value) : Kp S a (w.setRow g cs) := by
  refine ⟨h.os, h.tape, h.output, ?_, fun b hb hs => ?_⟩
  · unfold World.setRow
    simpa using h.size
  · have hne : g ≠ b := fun e => hp (e ▸ hb) (e ▸ hs)
    unfold World.setRow
    simp only [Array.getElem?_modify, if_neg hne]
    exact h.block b hb hs
set_option maxRecDepth 100000 in
set_option maxHeartbeats 1000000 in
theorem repeat_any (x g : Nat) (hg1 : 1 ≤ g) (hg : g ≤ 1024) (w : World) (hx : w.heap[x]? = some (.cells #[noneV] 22 (0, 0))) :
    Calls Tryz.prog 61 #[.slice (some ⟨x, 0, none⟩) 1 1, .int .i64 g] w fun e w' => e = .returned (.slice (some ⟨w.heap.size, 0, none⟩) g g) ∧ w'.heap[w.heap.size]? = some (.cells (List.replicate g noneV).toArray 22 (0, 0)) ∧ Kp All w w' := by
  have hm := mk_u64 g hg
  have d0 : decide ((g : Int) < 0) = false := decide_eq_false (by omega)
  have d1 : decide ((9223372036854775807 : Int) < (g : Int)) = false := decide_eq_false (by omega)
  have HX := hid hx
  have hxl := blk_lt hx
  clear hx
  go_enter Tryz.func61, Tryz.ntmps61
  go_wp2_with fail
  refine (mul_any g hg _).mono ?_
  rintro e w' ⟨rfl, hw⟩
  have hw := hw.symm
  subst hw
  have hV := blk_new w (.cells (Array.replicate g zeroV) 22)
  have hxV := blk_alloc HX.out (.cells (Array.replicate g zeroV) 22)
  have kV := Kp.al w (.cells (Array.replicate g zeroV) 22)
  have hc := run_copy_row (P := Tryz.prog) (w.alloc (.cells (Array.replicate g zeroV) 22)) 59 59 3 22 w.heap.size 0 g g ⟨x, 0, none⟩ 1 1 (Array.replicate g zeroV) 22 [noneV] Tryz.underlying59 (by kernel_rfl) hV (show 1 = min 1 g by omega) (fun j v hj => by
    rw [add_lit0, Nat.zero_add, blk_cell hxV]
    simpa using hj) (by simp; omega) none_one
  obtain ⟨V, hVe⟩ : ∃ V, (w.alloc (.cells (Array.replicate g zeroV) 22)).setRow w.heap.size ((Array.replicate g zeroV).toList.take 0 ++ [noneV] ++ (Array.replicate g zeroV).toList.drop (0 + [noneV].length)).toArray = V := ⟨_, rfl⟩
  rw [hVe] at hc
  have hb1 : V.heap[w.heap.size]? = some (.cells (filled g 1).toArray 22 (0, 0)) := by
    rw [← hVe, setRow_heap _ _ _ _ _ _ hV]
    congr 2
    rw [filled, Array.toList_replicate]
    simp
  have hk1 : Kp All w V := by
    rw [← hVe]
    exact kV.setRow (fun h => by omega) _
  have HB1 := hid hb1; have HK1 := hid hk1
  clear hVe hb1 hk1 hV hxV kV
  go_wp2_with fail
  clear hc
  go_loopw [8] (fun i wr => ∃ m : Nat, 1 ≤ m ∧ m ≤ g ∧ i = .int .i64 m ∧ Hid (wr.heap[w.heap.size]? = some (.cells (filled g m).toArray 22 (0, 0))) ∧ Hid (Kp All w wr)) (fun i _ => g - (ivl i).toNat)
  case atStart => exact ⟨1, Nat.le_refl _, hg1, rfl, HB1, HK1⟩
  case round =>
    obtain ⟨m, hm1, hmg, rfl, HB, HK⟩ := hrel
    by_cases hlt : m < g
    · have d2 : decide ((m : Int) < (g : Int)) = true := decide_eq_true (by omega)
      have i1 : (0 : Int) ≤ (m : Int) := by omega
      have i2 : (m : Int) ≤ (g : Int) := by omega
      obtain ⟨k, hk⟩ : ∃ k, min m (g - m) = k := ⟨_, rfl⟩
      have hk1 : 1 ≤ k := by omega
      have hkm : k ≤ m := by omega
      have hkg : m + k ≤ g := by omega
      have hc := run_copy_row (P := Tryz.prog) wr.drew 59 59 3 22 w.heap.size m (g - m) (g - m) ⟨w.heap.size, 0, none⟩ m g (filled g m).toArray 22 (List.replicate k noneV) Tryz.underlying59 (by kernel_rfl) HB.out (by rw [List.length_replicate]; exact hk.symm) (fun j v hj => by
        rw [add_lit0, Nat.zero_add]
        have hj2 := List.getElem?_eq_some_iff.1 hj
        obtain ⟨hjl, hjv⟩ := hj2
        rw [List.length_replicate] at hjl
        rw [List.getElem_replicate] at hjv
        subst hjv
        rw [blk_cell (show wr.drew.heap[w.heap.size]? = _ from HB.out)]
        rw [List.getElem?_toArray, filled, List.getElem?_append_left (by simp; omega), List.getElem?_replicate, if_pos (by omega)]) (by simp [filled]; omega) (fun v hv => by
        rw [List.eq_of_mem_replicate hv]; rfl)
      obtain ⟨V2, hV2⟩ : ∃ V2, wr.drew.setRow w.heap.size ((filled g m).toArray.toList.take m ++ List.replicate k noneV ++ (filled g m).toArray.toList.drop (m + (List.replicate k noneV).length)).toArray = V2 := ⟨_, rfl⟩
      rw [hV2, List.length_replicate] at hc
      have hb2 : V2.heap[w.heap.size]? = some (.cells (filled g (m + k)).toArray 22 (0, 0)) := by
        rw [← hV2, setRow_heap _ _ _ _ _ _ (show wr.drew.heap[w.heap.size]? = _ from HB.out), ← filled_splice hkg]
        simp only [splice, List.append_assoc]
      have HB2 := hid hb2
      have HK2 : Hid (Kp All w V2) := hid (by
        rw [← hV2]
        exact HK.out.drew.setRow (fun h => by omega) _)
      clear hV2 hb2
      go_wp2_with fail
      go_region
      go_wp2_with fail
      exact ⟨⟨m + k, by omega, hkg, by go_num, HB2, HK2⟩, by simp [ivl]; omega⟩
    · have d2 : decide ((m : Int) < (g : Int)) = false := decide_eq_false (by omega)
      obtain rfl : m = g := by omega
      go_wp2_with fail
      go_ret
      have := HB.out
      rw [filled, Nat.sub_self, List.replicate_zero, List.append_nil] at this
      exact ⟨rfl, this, HK.out⟩
theorem els2 : El Tryz.prog 71 70 2 32 (.agg #[.string ⟨#[]⟩, .string ⟨#[]⟩]) := ⟨Tryz.underlying71, by kernel_rfl, rfl, by decide, by decide⟩
theorem scs_rep (n : Nat) : (scs (List.replicate n zslot)).length = n * 2 := by rw [scs_len, List.length_replicate]
theorem made_slots (n : Nat) : madeCells (Value.cells (.agg #[.string ⟨#[]⟩, .string ⟨#[]⟩])) (n * 2) = (scs (List.replicate n zslot)).toArray := by
  have hz : Value.cells (.agg #[.string ⟨#[]⟩, .string ⟨#[]⟩]) = #[.string ⟨#[]⟩, .string ⟨#[]⟩] := rfl
  apply Array.ext
  · rw [size_madeCells]; simp [scs_rep]
  · intro i h1 h2
    have hi : i < n * 2 := by rw [size_madeCells] at h1; exact h1
    have e : (scs (List.replicate n zslot))[i]? = some (.string ⟨#[]⟩) := by
      obtain ⟨g1, g2⟩ := scs_get (l := List.replicate n zslot) (i := i / 2) (s := zslot) (by rw [List.getElem?_replicate, if_pos (by omega)])
      rcases Nat.mod_two_eq_zero_or_one i with h | h
      · rw [show i / 2 * 2 = i from by omega] at g1; exact g1
      · rw [show i / 2 * 2 + 1 = i from by omega] at g2; exact g2
    have e2 : (scs (List.replicate n zslot)).toArray[i] = .string ⟨#[]⟩ := by
      rw [List.getElem_toArray]
      rw [List.getElem?_eq_getElem (by rw [scs_rep]; exact hi)] at e
      exact Option.some.inj e
    rw [e2]
    simp only [madeCells, Array.getElem_map, Array.getElem_range]
    rw [hz]
    have h2 : i % 2 = 0 ∨ i % 2 = 1 := by omega
    have hs : (#[Value.string ⟨#[]⟩, Value.string ⟨#[]⟩] : Array Value).size = 2 := rfl
    rw [hs]
    rcases h2 with h2 | h2 <;> rw [h2] <;> rfl
theorem mk_slots (n : Nat) (hn : n ≤ 8192) (w : World) :
    (Instr.makeSlice 71 (.int .i64 (n : Int)) (.int .i64 (n : Int))).run Tryz.prog w = .ok (.slice (some ⟨w.heap.size, 0, none⟩) n n) (w.alloc (.cells (scs (List.replicate n zslot)).toArray 70)) := by
  obtain ⟨i, hi, hz, hs, hb⟩ := info_parts els2.info
  have := run_make (P := Tryz.prog) w 71 70 i (.agg #[.string ⟨#[]⟩, .string ⟨#[]⟩]) els2.sl hi hz .i64 .i64 (n : Int) (n : Int) (by omega) (by omega) (by rw [hb]; omega) (by omega)
  rw [this, hs, Int.toNat_natCast, made_slots]
end Go.Proofs.YtodledidabdkaaaGreatDoor

namespace Go.Proofs.YtodledidabdkaaaGreatDoor
open Go.RowKit Go.Shelf V
set_option linter.unusedVariables false
set_option linter.unusedSimpArgs false
/-- An empty map of g groups is answered, all else kept. -/
def MadeR (k0 k1 g : Nat) (w : World) (e : Ending) (w' : World) : Prop := ∃ bm bw cw bs cs, e = .returned (.pointer (some ⟨bm, 0, none⟩)) ∧ w.heap.size ≤ bm ∧ w.heap.size ≤ bw ∧ w.heap.size ≤ bs ∧ Ms k0 k1 bm bw cw bs cs (madeP g) w' ∧ Kp All w w'
theorem wcs_made (g : Nat) : wcs (madeP g).ctrl = List.replicate g noneV := by
  apply List.ext_getElem?
  intro q
  by_cases hq : q < g
  · have hl : (madeP g).ctrl.length / 8 = g := by simp [madeP]
    rw [wcs_get (by rw [hl]; exact hq), List.getElem?_replicate, if_pos hq]
    have e : grp (madeP g).ctrl q = List.replicate 8 128 := by
      unfold grp madeP
      simp only [List.drop_replicate, List.take_replicate]
      congr 1
      omega
    rw [e, wd_rep]
    rfl
  · rw [List.getElem?_eq_none (by rw [wcs_len]; simp [madeP]; omega), List.getElem?_eq_none (by simpa using hq)]
theorem made_cnt (g : Nat) : (madeP g).cnt = 0 ∧ (madeP g).tmb = 0 ∧ (madeP g).g = g := by
  refine ⟨?_, ?_, by simp [Mp.g, madeP]⟩
  · unfold Mp.cnt madeP
    rw [List.countP_eq_zero]
    intro b hb
    rw [List.eq_of_mem_replicate hb]; decide
  · unfold Mp.tmb madeP
    rw [List.countP_eq_zero]
    intro b hb
    rw [List.eq_of_mem_replicate hb]; decide
theorem made_ms {k0 k1 g bm bw bs : Nat} {W : World} (hg : g ≤ 1024) (hbm : W.heap[bm]? = some (.cells #[.int .u64 k0, .int .u64 k1, .slice (some ⟨bw, 0, none⟩) g g, .slice (some ⟨bs, 0, none⟩) (8 * g) (8 * g), .int .i64 0, .int .i64 0] 73 (0, 0))) (hbw : W.heap[bw]? = some (.cells (List.replicate g noneV).toArray 22 (0, 0))) (hbs : W.heap[bs]? = some (.cells (scs (List.replicate (8 * g) zslot)).toArray 70 (0, 0)))
    (z1 : bm ≠ 0) (z2 : bw ≠ 0) (z3 : bs ≠ 0) : Ms k0 k1 bm bw g bs (8 * g) (madeP g) W := by
  have hc := made_cnt g
  show Mr k0 k1 bm bw g bs (8 * g) (madeP g).g (madeP g).ctrl (madeP g).slots (madeP g).cnt (madeP g).tmb W
  rw [hc.1, hc.2.1, hc.2.2]
  refine ⟨hbm, ⟨_, hbw, by simp, ?_⟩, ⟨_, hbs, by simp [scs_rep], ?_⟩, Nat.le_refl _, Nat.le_refl _, by omega, by omega, ?_, ?_, ?_, z1, z2, z3⟩
  · rw [wcs_made]; simp
  · show (scs (List.replicate (8 * g) zslot)).toArray.toList.take (8 * g * 2) = scs (List.replicate (8 * g) zslot)
    rw [List.take_of_length_le (by simp [scs_rep])]
  · rintro rfl
    rw [hbm] at hbw
    injection hbw with e
    injection e with _ e _
    cases e
  · rintro rfl
    rw [hbm] at hbs
    injection hbs with e
    injection e with _ e _
    cases e
  · rintro rfl
    rw [hbw] at hbs
    injection hbs with e
    injection e with _ e _
    cases e
set_option maxRecDepth 100000 in
set_option maxHeartbeats 1000000 in
theorem made0_any (k0 k1 g : Nat) (hg1 : 1 ≤ g) (hg : g ≤ 1024) (w : World) (hgs : Gs w) : Calls Tryz.prog 28 #[.agg #[.int .u64 k0, .int .u64 k1], .int .i64 g] w (MadeR k0 k1 g w) := by
  have hms := mk_slots (8 * g) (by omega)
  rw [show ((8 * g : Nat) : Int) = 8 * (g : Int) from by omega] at hms
  have HZ : Hid (0 < w.heap.size) := by
    obtain ⟨_, _, e⟩ := hgs
    exact hid (blk_lt e)
  have hw8 : IntKind.i64.wrap (8 * (g : Int)) = 8 * (g : Int) := IntWalk.i64_in _ (by omega)
  clear hgs
  go_enter Tryz.func28, Tryz.ntmps28
  go_wp2_with fail
  have b1 := blk_new w (.cells #[.int .u64 k0, .int .u64 k1] 24)
  have k1' := Kp.al w (.cells #[.int .u64 k0, .int .u64 k1] 24)
  obtain ⟨W1, hW1⟩ : ∃ W1, w.alloc (.cells #[.int .u64 k0, .int .u64 k1] 24) = W1 := ⟨_, rfl⟩
  rw [hW1] at b1 k1' ⊢
  clear hW1
  have c1 := blk_cell b1
  have HB1 := hid b1
  have HK1 := hid k1'
  clear b1 k1'
  have hmk : ∀ w', Kp All W1 w' → (∀ i, w'.cell? ⟨w.heap.size, i, none⟩ = (#[.int .u64 k0, .int .u64 k1] : Array Value)[i]?) ∧ Kp All W1 w' := fun w' k => ⟨blk_cell (k.heap HB1.out trivial), k⟩
  have HMK := hid hmk
  clear hmk
  go_region_held3 (fun w' => (∀ i, w'.cell? ⟨w.heap.size, i, none⟩ = (#[.int .u64 k0, .int .u64 k1] : Array Value)[i]?) ∧ Kp All W1 w') (first | assumption | exact HMK.out _ (Kp.refl _ _).drew | (refine HMK.out _ ?_; first | exact HKS.out | exact HKS.out.alloc _ | exact (HKS.out.alloc _).alloc _ | exact (by assumption : _ ∧ Kp All W1 _).2.alloc _)) (first | (go_at_call 61; refine (repeat_any _ g hg1 hg _ (by first | exact blk_new _ _ | exact blk_alloc (blk_new _ _) _ | (have h := blk_new (W1.drew.alloc (.cells (scs (List.replicate (8 * g) zslot)).toArray 70)) (.cells #[noneV] 22); rw [World.size_alloc] at h; exact h))).mono ?_; rintro e wS ⟨rfl, hbW, hkS⟩; have HKS := hid ((by assumption : _ ∧ Kp All W1 _).2.trans hkS); have HZS := hid (by assumption : _ ∧ Kp All W1 _).2.size; (try simp only [World.drew, World.size_alloc] at hbW); (try (have hsA : wS.heap[W1.heap.size]? = some (.cells (scs (List.replicate (8 * g) zslot)).toArray 70 (0, 0)) := hkS.heap (blk_alloc (blk_new W1.drew _) _) trivial; have HSA := hid hsA; clear hsA)); (try (have hsB : wS.heap[W1.heap.size + 1]? = some (.cells (scs (List.replicate (8 * g) zslot)).toArray 70 (0, 0)) := hkS.heap (by have h := blk_new (W1.drew.alloc (.cells #[noneV] 22)) (.cells (scs (List.replicate (8 * g) zslot)).toArray 70); rw [World.size_alloc] at h; exact h) trivial; have HSB := hid hsB; clear hsB)); have HBW := hid hbW; clear hbW hkS))
  all_goals
    have z1 := HZ.out
    have z2 := HK1.out.size
    have z3 := HKS.out.size
    go_wp2_with fail
    go_ret
  all_goals first
    | (refine ⟨wS.heap.size, W1.heap.size + 1 + 1, g, W1.heap.size, 8 * g, rfl, by omega, by omega, by omega, made_ms hg (blk_new wS _) (blk_alloc HBW.out _) (blk_alloc HSA.out _) (by omega) (by omega) (by omega), (HK1.out.trans HKS.out).alloc _⟩; done)
    | (refine ⟨wS.heap.size, W1.heap.size + 1 + 1, g, W1.heap.size + 1, 8 * g, rfl, by omega, by omega, by omega, made_ms hg (blk_new wS _) (blk_alloc HBW.out _) (blk_alloc HSB.out _) (by omega) (by omega) (by omega), (HK1.out.trans HKS.out).alloc _⟩; done)
    | skip
  refine ⟨wS.heap.size + 1, W1.heap.size + 1, g, wS.heap.size, 8 * g, rfl, by omega, by omega, by omega, made_ms hg ?_ (blk_alloc (blk_alloc HBW.out _) _) (blk_alloc (blk_new wS _) _) (by omega) (by omega) (by omega), ((HK1.out.trans HKS.out).alloc _).alloc _⟩
  have h := blk_new (wS.alloc (.cells (scs (List.replicate (8 * g) zslot)).toArray 70)) (.cells #[.int .u64 k0, .int .u64 k1, .slice (some ⟨W1.heap.size + 1, 0, none⟩) g g, .slice (some ⟨wS.heap.size, 0, none⟩) (8 * g) (8 * g), .int .i64 0, .int .i64 0] 73)
  rw [World.size_alloc] at h
  exact h
/-- New -/
theorem mnew_any (k0 k1 n : Nat) (hn : n ≤ 7000) (w : World) (hgs : Gs w) : Calls Tryz.prog 5 #[.agg #[.int .u64 k0, .int .u64 k1], .int .i64 n] w fun e w' => ∃ g, (∃ k, k ≤ 10 ∧ g = 2 ^ k) ∧ n ≤ 7 * g ∧ (n ≤ 7 → g = 1) ∧ MadeR k0 k1 g w e w' := by
  have HG := hid hgs
  clear hgs
  go_enter Tryz.func5, Tryz.ntmps5
  go_wp2_with fail
  refine (need_any n hn _).mono ?_
  rintro e w1 ⟨⟨g, ⟨k, hk, hgk⟩, rfl, h7, h1⟩, hw⟩
  have hw := hw.symm
  subst hw
  obtain ⟨p1, p2, _⟩ := pow_good ⟨k, by omega⟩
  simp only [← hgk] at p1 p2
  have d1 : ((g : Int) == 0) = false := by simp; omega
  have HH := hid (And.intro hgk (And.intro h7 h1))
  have c2 := blk_cell (blk_new w (.cells #[.int .u64 k0, .int .u64 k1] 24))
  clear hgk h7 h1
  go_wp2_with fail
  refine (made0_any k0 k1 g p1 p2 _ (HG.out.all (Kp.al _ _))).mono ?_
  rintro e w2 ⟨bm, bw, cw, bs, cs, rfl, z1, z2, z3, hM, hK⟩
  go_wp2_with fail
  go_ret
  rw [World.size_alloc] at z1 z2 z3
  exact ⟨g, ⟨k, hk, HH.out.1⟩, HH.out.2.1, HH.out.2.2, bm, bw, cw, bs, cs, rfl, by omega, by omega, by omega, hM, (Kp.al _ _).trans hK⟩
end Go.Proofs.YtodledidabdkaaaGreatDoor
