/- A map and the document's map side by side: put to, deleted from. No condition but that the maps lie, and where the library's variable lies. ImageTells walked. No condition but that the row of pairs lies, with texts no longer than memory goes, and where the library's variable lies. -/
import Derived.Test.YtodledidabdkaaaGreatDoorM13
import Derived.Test.YtodledidabdkaaaGreatDoorM19
set_option linter.unusedVariables false
set_option linter.unusedSimpArgs false
namespace Go.Proofs.YtodledidabdkaaaGreatDoor
open Go.RowKit Go.Shelf V
set_option linter.unusedVariables false
set_option linter.unusedSimpArgs false
/-- the map that the law makes, at a step -/
def V.tells (H : Tx → Nat) (l : List Slot) : Nat → Mp
  | 0 => madeP 1
  | k + 1 => if k % 4 = 3 then (delP H (putP H (V.tells H l k) (l.getD k zslot).1 (l.getD k zslot).2).1 (l.getD (k - 1) zslot).1).1 else (putP H (V.tells H l k) (l.getD k zslot).1 (l.getD k zslot).2).1
theorem tells_inv (H : Tx → Nat) (l : List Slot) : ∀ k, k ≤ l.length → Inv H (tells H l k) ∧ ∀ a b, Has (tells H l k) a b → (a, b) ∈ l
  | 0, _ => by
    obtain ⟨i0, _, _, _, n0⟩ := made_inv H (k := 0) (by omega)
    exact ⟨i0, fun a b h => absurd h (n0 a b)⟩
  | k + 1, hk => by
    obtain ⟨h1, h2⟩ := tells_inv H l k (by omega)
    have hm : (l.getD k zslot) ∈ l := by
      rw [List.getD_eq_getElem?_getD, List.getElem?_eq_getElem (by omega)]
      exact List.getElem_mem _
    have h3 := (put_inv h1 (l.getD k zslot).1 (l.getD k zslot).2).1
    have h4 : ∀ a b, Has (putP H (tells H l k) (l.getD k zslot).1 (l.getD k zslot).2).1 a b → (a, b) ∈ l := fun a b h => by
      rcases put_has h1 h with h | h
      · exact h2 a b h
      · rw [h]; exact hm
    rw [tells]
    split
    · obtain ⟨g1, _, _, g2⟩ := del_inv h3 (l.getD (k - 1) zslot).1
      exact ⟨g1, fun a b h => h4 a b ((g2 a b).1 h).2⟩
    · exact ⟨h3, h4⟩
theorem tells_pairs (H : Tx → Nat) {l : List Slot} (hf : fewGo 0 l = true) : (pairsP (tells H l l.length)).length ≤ 2000 ∧ ∀ x ∈ pairsP (tells H l l.length), x.1.size + x.2.size ≤ 15000 := by
  obtain ⟨h1, h2⟩ := tells_inv H l l.length (Nat.le_refl _)
  refine ⟨by rw [pairs_len h1.slen]; exact h1.most, fun x hx => ?_⟩
  obtain ⟨a, b⟩ := x
  exact (few_le hf (by omega)).2 _ (h2 a b (pairs_mem.1 hx))
/-- blocks of pairs are kept -/
def Pk (W w' : World) : Prop := ∀ (b : Nat) (cs : Array Value), W.heap[b]? = some (.cells cs 35 (0, 0)) → w'.heap[b]? = some (.cells cs 35 (0, 0))
theorem pk_lm {k0 k1 bm : Nat} {M : Mp} {O : Nat → Prop} {W w' : World} (h : Lm k0 k1 bm M O W) (k : Kp (fun b => ¬ O b) W w') : Pk W w' := by
  intro b cs hb
  refine k.heap hb fun ho => ?_
  obtain ⟨bw, cw, bs, cs', hm, hO⟩ := h.ms
  obtain ⟨c1, e1, _⟩ := hm.wds
  obtain ⟨c2, e2, _⟩ := hm.sls
  rcases (hO b).1 ho with rfl | rfl | rfl
  · rw [hm.str] at hb; injection hb with hb; injection hb with _ hb; exact absurd hb (by decide)
  · rw [e1] at hb; injection hb with hb; injection hb with _ hb; exact absurd hb (by decide)
  · rw [e2] at hb; injection hb with hb; injection hb with _ hb; exact absurd hb (by decide)
theorem pk_ql {k0 k1 bm : Nat} {M : Mp} {O : Nat → Prop} {W w' : World} (h : Ql k0 k1 bm M O W) (k : Kp (fun b => ¬ O b) W w') : Pk W w' := by
  intro b cs hb
  refine k.heap hb fun ho => ?_
  obtain ⟨bw, cw, bs, cs', hm, hO⟩ := h.ms
  obtain ⟨c1, e1, _⟩ := hm.wds
  obtain ⟨c2, e2, _⟩ := hm.sls
  rcases (hO b).1 ho with rfl | rfl | rfl
  · rw [hm.str] at hb; injection hb with hb; injection hb with _ hb; exact absurd hb (by decide)
  · rw [e1] at hb; injection hb with hb; injection hb with _ hb; exact absurd hb (by decide)
  · rw [e2] at hb; injection hb with hb; injection hb with _ hb; exact absurd hb (by decide)
/-- a map made since w, and the document's, lie apart -/
def N3 (k0 k1 : Nat) (w : World) (bp bq : Nat) (P Q : Mp) (W : World) : Prop := ∃ Op Oq, Lm k0 k1 bp P Op W ∧ Ql k0 k1 bq Q Oq W ∧ (∀ b, Op b → w.heap.size ≤ b) ∧ (∀ b, Oq b → w.heap.size ≤ b) ∧ (∀ b, Op b → ¬ Oq b) ∧ Kp All w W
section
variable {k0 k1 : Nat} {w : World} {bp bq : Nat} {P Q : Mp} {W W' : World}
theorem N3.kept (h : N3 k0 k1 w bp bq P Q W) (k : Kp All W W') : N3 k0 k1 w bp bq P Q W' := by
  obtain ⟨Op, Oq, h1, h2, h3, h4, h5, h6⟩ := h
  exact ⟨Op, Oq, h1.all k, h2.all k, h3, h4, h5, h6.trans k⟩
theorem N3.old (h : N3 k0 k1 w bp bq P Q W) : Kp All w W := by
  obtain ⟨Op, Oq, h1, h2, h3, h4, h5, h6⟩ := h
  exact h6
theorem n3_new (h : Nm k0 k1 w bp P W) (h0 : k0 < 18446744073709551616) (h1 : k1 < 18446744073709551616) (n : Nat) (hn : n ≤ 7000) : Calls Tryz.prog 6 #[.int .u64 k0, .int .u64 k1, .int .i64 n] W fun e w' => ∃ bq k, k ≤ 10 ∧ n ≤ 7 * 2 ^ k ∧ (∀ j, j < k → 7 * 2 ^ j < n) ∧ e = .returned (.pointer (some ⟨bq, 0, none⟩)) ∧ N3 k0 k1 w bp bq P (madeP (2 ^ k)) w' ∧ Kp All W w' := by
  obtain ⟨O, g1, g2, g3⟩ := h
  refine (r5new_any k0 k1 n hn W).mono ?_
  rintro e w' ⟨k, hk, h7, hj, bm, bw, cw, bs, cs, rfl, b1, b2, b3, hm, hk2⟩
  obtain ⟨i0, _, _, _, n0⟩ := made_inv (sipP k0 k1) hk
  have := g3.size
  refine ⟨bm, k, hk, h7, hj, rfl, ⟨O, fun b => b = bm ∨ b = bw ∨ b = bs, g1.all hk2, ⟨⟨bw, cw, bs, cs, hm, fun b => Iff.rfl⟩, i0, h0, h1, fun k v h => absurd h (n0 k v)⟩, g2, ?_, ?_, g3.trans hk2⟩, hk2⟩
  · rintro b (rfl | rfl | rfl) <;> omega
  · intro b hb hb'
    have := g1.lt b hb
    rcases hb' with rfl | rfl | rfl <;> omega
theorem n3_put (key v : Tx) (hkey : key.size ≤ 9000000000000000000) (hgs : Gs w) (h : N3 k0 k1 w bp bq P Q W) : Calls Tryz.prog 9 #[.pointer (some ⟨bp, 0, none⟩), .string key, .string v] W fun e w' => e = .returned (.tuple #[.bool (putP (sipP k0 k1) P key v).2.1, .int .i64 ((putP (sipP k0 k1) P key v).2.2 : Nat)]) ∧ N3 k0 k1 w bp bq (putP (sipP k0 k1) P key v).1 Q w' ∧ Pk W w' := by
  obtain ⟨Op, Oq, h1, h2, h3, h4, h5, h6⟩ := h
  refine (mput_any k0 k1 bp P Op key v hkey W (hgs.kept h6 trivial) h1).mono ?_
  rintro e w' ⟨rfl, O', g1, g2, g3⟩
  have := h6.size
  refine ⟨rfl, ⟨O', Oq, g1, h2.kept g3 (fun b hb ho => h5 b ho hb), fun b hb => ?_, h4, fun b hb hq => ?_, h6.then g3 fun b hb _ e => absurd (h3 b e) (by omega)⟩, pk_lm h1 g3⟩
  · rcases Nat.lt_or_ge b W.heap.size with hl | hl
    · exact h3 b (g2 b hl hb)
    · omega
  · exact h5 b (g2 b (h2.lt b hq) hb) hq
theorem n3_putr (key v : Tx) (hkey : key.size ≤ 9000000000000000000) (h : N3 k0 k1 w bp bq P Q W) : Calls Tryz.prog 10 #[.pointer (some ⟨bq, 0, none⟩), .string key, .string v] W fun e w' => e = .returned (.tuple #[.bool (putP (sipP k0 k1) Q key v).2.1, .int .i64 ((putP (sipP k0 k1) Q key v).2.2 : Nat)]) ∧ N3 k0 k1 w bp bq P (putP (sipP k0 k1) Q key v).1 w' ∧ Pk W w' := by
  obtain ⟨Op, Oq, h1, h2, h3, h4, h5, h6⟩ := h
  refine (r5put_any k0 k1 bq Q Oq key v hkey W h2).mono ?_
  rintro e w' ⟨rfl, O', g1, g2, g3⟩
  have := h6.size
  refine ⟨rfl, ⟨Op, O', h1.kept g3 (fun b hb ho => h5 b hb ho), g1, h3, fun b hb => ?_, fun b hb hq => ?_, h6.then g3 fun b hb _ e => absurd (h4 b e) (by omega)⟩, pk_ql h2 g3⟩
  · rcases Nat.lt_or_ge b W.heap.size with hl | hl
    · exact h4 b (g2 b hl hb)
    · omega
  · exact h5 b hb (g2 b (h1.lt b hb) hq)
theorem n3_del (key : Tx) (hkey : key.size ≤ 9000000000000000000) (hgs : Gs w) (h : N3 k0 k1 w bp bq P Q W) : Calls Tryz.prog 11 #[.pointer (some ⟨bp, 0, none⟩), .string key] W fun e w' => e = .returned (.bool (delP (sipP k0 k1) P key).2) ∧ N3 k0 k1 w bp bq (delP (sipP k0 k1) P key).1 Q w' := by
  obtain ⟨Op, Oq, h1, h2, h3, h4, h5, h6⟩ := h
  refine (mdel_any k0 k1 bp P Op key hkey W (hgs.kept h6 trivial) h1).mono ?_
  rintro e w' ⟨rfl, g1, g3⟩
  have := h6.size
  exact ⟨rfl, Op, Oq, g1, h2.kept g3 (fun b hb ho => h5 b ho hb), h3, h4, h5, h6.then g3 fun b hb _ e => absurd (h3 b e) (by omega)⟩
theorem n3_delr (key : Tx) (hkey : key.size ≤ 9000000000000000000) (h : N3 k0 k1 w bp bq P Q W) : Calls Tryz.prog 12 #[.pointer (some ⟨bq, 0, none⟩), .string key] W fun e w' => e = .returned (.bool (delP (sipP k0 k1) Q key).2) ∧ N3 k0 k1 w bp bq P (delP (sipP k0 k1) Q key).1 w' := by
  obtain ⟨Op, Oq, h1, h2, h3, h4, h5, h6⟩ := h
  refine (r5del_any k0 k1 bq Q Oq key hkey W h2).mono ?_
  rintro e w' ⟨rfl, g1, g3⟩
  have := h6.size
  exact ⟨rfl, Op, Oq, h1.kept g3 (fun b hb ho => h5 b hb ho), g1, h3, h4, h5, h6.then g3 fun b hb _ e => absurd (h4 b e) (by omega)⟩
end
end Go.Proofs.YtodledidabdkaaaGreatDoor

namespace Go.Proofs.YtodledidabdkaaaGreatDoor
open Go.RowKit Go.Shelf V
set_option linter.unusedVariables false
set_option linter.unusedSimpArgs false
set_option maxRecDepth 100000 in
set_option maxHeartbeats 8000000 in
theorem imageTells_any (k0 k1 : Nat) (h0 : k0 < 18446744073709551616) (h1 : k1 < 18446744073709551616) (A : Option Addr) (n c : Nat) (L : List Slot) (f u : Tx) (lim : Int) (hn : L.length = n) (hL : Szs L) (w : World) (hgs : Gs w) (h : Foot All (Sl A n c 2 (scs L)) w) :
    Calls Tryz.prog 3 #[.agg #[.int .u64 k0, .int .u64 k1], .slice A n c, .agg #[.string f, .string u, .int .i64 lim]] w fun e w' => e = .returned (.bool true) ∧ Kp All w w' := by
  obtain ⟨W3, hW3⟩ : ∃ W3, (w.alloc (.cells #[.int .u64 k0, .int .u64 k1] 24)).alloc (.cells #[.string f, .string u, .int .i64 lim] 27) = W3 := ⟨_, rfl⟩
  have k3 : Kp All w W3 := hW3 ▸ (Kp.al _ _).alloc _
  have ba := blk_alloc (blk_new w (.cells #[.int .u64 k0, .int .u64 k1] 24)) (.cells #[.string f, .string u, .int .i64 lim] 27)
  have bt := blk_new (w.alloc (.cells #[.int .u64 k0, .int .u64 k1] 24)) (.cells #[.string f, .string u, .int .i64 lim] 27)
  simp only [World.size_alloc] at bt
  rw [hW3] at ba bt
  have ca := blk_cell ba
  have BA := hid ba
  have BT := hid bt
  have H := hid (h.step k3)
  have HN := hid hn; have HL := hid hL
  have HG := hid (hgs.kept k3 trivial); have K3 := hid k3
  have hn9 : n ≤ 9000000000000000000 := hn ▸ hL.1
  have H01 := hid (And.intro h0 h1)
  clear ba bt k3 h hn hL hgs
  go_enter Tryz.func3, Tryz.ntmps3
  go_wp2_with fail
  go_region_held3 (fun w' => ∀ i, w'.cell? ⟨w.heap.size, i, none⟩ = (#[.int .u64 k0, .int .u64 k1] : Array Value)[i]?) (first | exact ca | exact blk_cell (HKB.out.heap BA.out trivial) | exact blk_cell (HKA.out.heap BA.out trivial)) (first | (go_at_call 6; refine (n3_new HNM.out H01.out.1 H01.out.2 0 (by omega)).mono ?_; rintro e w5 ⟨bq, kb, hkb, _, hjb, rfl, hn3, hk5⟩; have hkb0 : kb = 0 := (by rcases Nat.eq_zero_or_pos kb with h | h; exact h; exact absurd (hjb 0 h) (by omega)); subst hkb0; have HN3 := hid hn3; have HKB := hid (HKA.out.trans hk5); clear hn3 hk5 hkb hjb) | (go_at_call 5; refine (nm_new k0 k1 0 H01.out.1 H01.out.2 (by omega) W3 _ (Kp.refl All W3).drew HG.out).mono ?_; rintro e w4 ⟨bp, rfl, hnm, hk4⟩; have HNM := hid hnm; have HKA := hid ((Kp.refl All W3).drew.trans hk4); clear hnm hk4))
  have HF1 := hid (fun W (k : Kp All W3 W) => few07_any A n c L HN.out hn9 HL.out.2 W (H.out.step k))
  have HLV := hid (fun W (k : Kp All W3 W) => lives07_any W (HG.out.kept k trivial))
  clear ca
  cases hfl : fewGo 0 L with
  | false =>
    rw [hfl] at HF1
    go_wp2_with fail
    refine (HF1.out _ HKB.out).mono ?_
    rintro e w6 ⟨rfl, hk6⟩
    have HK6 := hid hk6
    clear hk6
    go_wp2_with fail
    refine (HLV.out _ (HKB.out.trans HK6.out)).mono ?_
    rintro e w7 ⟨rfl, hk7⟩
    have HK7 := hid hk7
    clear hk7
    go_wp2_with fail
    go_ret
    exact ⟨rfl, K3.out.trans (HKB.out.trans (HK6.out.trans HK7.out))⟩
  | true =>
    rw [hfl] at HF1
    have HFL := hid hfl
    clear hfl
    go_wp2_with fail
    refine (HF1.out _ HKB.out).mono ?_
    rintro e w6 ⟨rfl, hk6⟩
    have HST0 := hid (HN3.out.kept hk6)
    clear hk6
    go_wp2_with fail
    go_loopw [33] (fun i wr => ∃ k : Nat, k ≤ n ∧ i = .int .i64 k ∧ Hid (N3 k0 k1 W3 bp bq (tells (sipP k0 k1) L k) (tells (sipP k0 k1) L k) wr)) (fun i _ => n - (ivl i).toNat)
    case atStart => exact ⟨0, Nat.zero_le _, rfl, HST0⟩
    case round =>
      obtain ⟨k, hk, rfl, hT⟩ := hrel
      by_cases hlt : k < n
      · have hb0 : decide ((k : Int) < (n : Int)) = true := decide_eq_true (by omega)
        obtain ⟨x, hx⟩ : ∃ x, L[k]? = some x := ⟨_, List.getElem?_eq_getElem (by rw [HN.out]; exact hlt)⟩
        have hgd : L.getD k zslot = x := getD_of hx
        obtain ⟨x1, x2⟩ := x
        obtain ⟨b, o, rfl, hr⟩ := (H.out _ hT.out.old).2.2 (by omega)
        obtain ⟨g1, g2⟩ := scs_get hx
        have p1 := hr _ _ g1
        have p2 := hr _ _ g2
        rw [← Nat.add_assoc] at p2
        dsimp only at p1 p2
        have hb1 := World.block_lt_of_cell? _ _ p1
        have i0 : (0 : Int) ≤ (k : Int) := by omega
        have i1 : (k : Int) < (n : Int) := by omega
        have hkz := (HL.out.2 (x1, x2) (List.mem_of_getElem? hx)).1
        dsimp only at hkz
        have htl : tells (sipP k0 k1) L (k + 1) = if k % 4 = 3 then (delP (sipP k0 k1) (putP (sipP k0 k1) (tells (sipP k0 k1) L k) x1 x2).1 (L.getD (k - 1) zslot).1).1 else (putP (sipP k0 k1) (tells (sipP k0 k1) L k) x1 x2).1 := by rw [tells, hgd]
        have HTL := hid htl
        obtain ⟨r4, hr4⟩ : ∃ r4, r4 = k % 4 := ⟨_, rfl⟩
        have hrem : Int.tmod (k : Int) 4 = (r4 : Int) := by rw [hr4]; rfl
        have hrw : IntKind.i64.wrap (r4 : Int) = (r4 : Int) := IntWalk.i64_in _ (by omega)
        have HR4 := hid hr4
        have hr45 : r4 < 4 := by omega
        clear hx g1 g2 hgd htl hr4
        by_cases h43 : r4 = 3
        · have d3 : ((r4 : Int) == 3) = true := by simp [h43]
          obtain ⟨a, ha⟩ : ∃ a, a + 1 = k := ⟨k - 1, by have := HR4.out; omega⟩
          obtain ⟨y, hy⟩ : ∃ y, L[a]? = some y := ⟨_, List.getElem?_eq_getElem (by rw [HN.out]; omega)⟩
          have hya : L.getD (k - 1) zslot = y := by rw [show k - 1 = a from by omega]; exact getD_of hy
          obtain ⟨y1, y2⟩ := y
          have hyz := (HL.out.2 (y1, y2) (List.mem_of_getElem? hy)).1
          dsimp only at hyz
          have HQ := hid (fun (W : World) (kk : Kp All W3 W) => show W.cell? ⟨b, o + a * 2, none⟩ = some (.string y1) from by
            obtain ⟨b', o', e', hr'⟩ := (H.out W kk).2.2 (by omega)
            injection e' with e'
            injection e' with e1 e2
            subst e1 e2
            exact hr' _ _ (scs_get hy).1)
          have hsub : IntKind.i64.wrap ((k : Int) - 1) = (a : Int) := by rw [show (k : Int) - 1 = (a : Int) from by omega]; exact IntWalk.i64_in _ (by omega)
          have a0 : (0 : Int) ≤ (a : Int) := by omega
          have a1 : (a : Int) < (n : Int) := by omega
          have HTL2 : Hid (tells (sipP k0 k1) L (k + 1) = (delP (sipP k0 k1) (putP (sipP k0 k1) (tells (sipP k0 k1) L k) x1 x2).1 y1).1) := hid (by rw [HTL.out, if_pos (by have := HR4.out; omega), hya])
          have HA := hid ha
          clear hr hy hya h43 ha
          go_wp2_with fail
          refine (n3_put x1 x2 (by omega) HG.out (hT.out.kept (Kp.al _ _))).mono ?_
          rintro e w7 ⟨rfl, hm7, hp7⟩
          have pb := blk_cell (hp7 _ _ (blk_new wr (.cells #[.string x1, .string x2] 35)))
          have HM7 := hid hm7
          clear hm7 hp7 p1 p2
          go_wp2_with fail
          refine (n3_putr x1 x2 (by omega) HM7.out).mono ?_
          rintro e w8 ⟨rfl, hm8, _⟩
          have HM8 := hid hm8
          clear hm8 pb
          have q1 := HQ.out w8 HM8.out.old
          have hbq := World.block_lt_of_cell? _ _ q1
          go_wp2_with fail
          refine (n3_del y1 (by omega) HG.out HM8.out).mono ?_
          rintro e w9 ⟨rfl, hm9⟩
          have q2 := HQ.out w9 hm9.old
          have hbq2 := World.block_lt_of_cell? _ _ q2
          have HM9 := hid hm9
          clear hm9 q1 hbq
          go_wp2_with fail
          refine (n3_delr y1 (by omega) HM9.out).mono ?_
          rintro e w10 ⟨rfl, hm10⟩
          rw [← HTL2.out] at hm10
          have HMA := hid hm10
          clear hm10 q2
          go_wp2_with fail
          exact ⟨⟨k + 1, by omega, by go_num, HMA⟩, by simp [ivl]; omega⟩
        · have d3 : ((r4 : Int) == 3) = false := by simp; omega
          have HTL2 : Hid (tells (sipP k0 k1) L (k + 1) = (putP (sipP k0 k1) (tells (sipP k0 k1) L k) x1 x2).1) := hid (by rw [HTL.out, if_neg (by have := HR4.out; omega)])
          clear hr h43
          go_wp2_with fail
          refine (n3_put x1 x2 (by omega) HG.out (hT.out.kept (Kp.al _ _))).mono ?_
          rintro e w7 ⟨rfl, hm7, hp7⟩
          have pb := blk_cell (hp7 _ _ (blk_new wr (.cells #[.string x1, .string x2] 35)))
          have HM7 := hid hm7
          clear hm7 hp7 p1 p2
          go_wp2_with fail
          refine (n3_putr x1 x2 (by omega) HM7.out).mono ?_
          rintro e w8 ⟨rfl, hm8, _⟩
          have HM8 := hid hm8
          clear hm8 pb
          go_wp2_with fail
          have hm9 := HM8.out
          rw [← HTL2.out] at hm9
          exact ⟨⟨k + 1, by omega, by go_num, hid hm9⟩, by simp [ivl]; omega⟩
      · have hb0 : decide ((k : Int) < (n : Int)) = false := decide_eq_false (by omega)
        have hkn : k = n := by omega
        have hT2 := hT.out
        have hX := tells_pairs (sipP k0 k1) HFL.out
        rw [HN.out] at hX
        rw [hkn] at hT2
        obtain ⟨M, hM⟩ : ∃ M, tells (sipP k0 k1) L n = M := ⟨_, rfl⟩
        rw [hM] at hT2 hX
        obtain ⟨Op, Oq, hlp, hlq, _⟩ := hT2
        have hold := hT.out.old
        have HLP := hid hlp; have HLQ := hid hlq; have HX := hid hX; have HO3 := hid hold
        clear hkn hT hX hM hlp hlq hold
        go_wp2_with fail
        refine (r7pairs_any k0 k1 bq M Oq wr HLQ.out).mono ?_
        rintro e w9 ⟨A9, c9, rfl, hf9, hk9⟩
        have HIP := hid (fun W (k : Kp All w9 W) => lm_pairs (HLP.out.all (hk9.trans k)))
        have HIR := hid (fun W (k : Kp All w9 W) => lm_range (HLP.out.all (hk9.trans k)) f u lim)
        have HIE := hid (fun W (k : Kp All w9 W) => lm_export (fun x hx => by have := HX.out.2 x hx; omega) (HLP.out.all (hk9.trans k)))
        have HKW := hid (HO3.out.trans hk9)
        have ct := blk_cell (HKW.out.heap BT.out trivial)
        have HB9 := hid (HKW.out.heap BT.out trivial)
        obtain ⟨X, hXX⟩ : ∃ X, pairsP M = X := ⟨_, rfl⟩
        rw [hXX] at hf9 HX HIP HIR HIE ⊢
        obtain ⟨xl, hxl⟩ : ∃ xl, X.length = xl := ⟨_, rfl⟩
        have HXL := hid hxl
        rw [hxl] at hf9 HX HIP ⊢
        have hx2 := HX.out.1
        have HCU := hid (fun W (k : Kp All w9 W) => r7cut_any A9 xl c9 X f u lim HXL.out hx2 W (hf9.step k))
        have HBY := hid (fun W (k : Kp All w9 W) => r7bytes_any A9 xl c9 X HXL.out hx2 (fun x hx => by have := HX.out.2 x hx; omega) W (hf9.step k))
        have HSX := hid (fun W (k : Kp All w9 W) A c (hf : Foot All (Sl A xl c 2 (scs X)) W) => rsame07_any A A9 xl xl c c9 X X HXL.out HXL.out (by omega) (by omega) W hf (hf9.step k))
        rw [decide_eq_true rfl] at HSX
        obtain ⟨R, hR⟩ : ∃ R, rangeP X f u lim = R := ⟨_, rfl⟩
        have hrl : R.length ≤ 2000 := by
          rw [← hR]
          unfold rangeP
          rw [List.length_take]
          have := List.length_filter_le (inR f u) X
          omega
        rw [hR] at HIR HCU
        obtain ⟨rl, hrle⟩ : ∃ rl, R.length = rl := ⟨_, rfl⟩
        have HRL := hid hrle
        rw [hrle] at hrl HIR HCU
        have HSR := hid (fun W A c A' c' (hf : Foot All (Sl A rl c 2 (scs R)) W) (hf' : Foot All (Sl A' rl c' 2 (scs R)) W) => rsame07_any A A' rl rl c c' R R HRL.out HRL.out (by omega) (by omega) W hf hf')
        rw [decide_eq_true rfl] at HSR
        clear hf9 hk9 hXX hxl hR hrle
        go_wp2_with fail
        go_region_held3 (fun w' => ∀ i, w'.cell? ⟨w.heap.size + 1, i, none⟩ = (#[.string f, .string u, .int .i64 lim] : Array Value)[i]?) (first | assumption | exact blk_cell (K9.out.heap HB9.out trivial) | exact blk_cell (K8.out.heap HB9.out trivial) | exact blk_cell (K7.out.heap HB9.out trivial) | exact blk_cell (K6.out.heap HB9.out trivial) | exact blk_cell (K5.out.heap HB9.out trivial) | exact blk_cell (K4.out.heap HB9.out trivial) | exact blk_cell (K3'.out.heap HB9.out trivial) | exact blk_cell (K2.out.heap HB9.out trivial) | exact blk_cell (K1.out.heap HB9.out trivial)) (first | (go_at_call 14; refine (HSR.out _ A3 c3 A4 c4 (by exact F34.out) (by exact F4.out)).mono ?_; rintro e x5 ⟨rfl, kk⟩; have K5 := hid (K4.out.trans kk); clear kk) | (go_at_call 14; refine (HSX.out _ (by exact K1.out) A1 c1 (by exact F1.out)).mono ?_; rintro e x2 ⟨rfl, kk⟩; have K2 := hid (K1.out.trans kk); clear kk) | (go_at_call 15; refine (HIP.out _ (by first | exact (Kp.refl All w9).drew | exact Kp.refl All w9)).mono ?_; rintro e x1 ⟨A1, c1, rfl, hf, kk⟩; have F1 := hid hf; have K1 := hid (show Kp All w9 x1 from by first | exact (Kp.refl All w9).drew.trans kk | exact kk); clear hf kk) | (go_at_call 16; refine (HIR.out _ (by exact K2.out)).mono ?_; rintro e x3 ⟨A3, c3, rfl, hf, kk⟩; have F3 := hid hf; have K3' := hid (K2.out.trans kk); clear hf kk) | (go_at_call 17; refine (HCU.out _ (by exact K3'.out)).mono ?_; rintro e x4 ⟨A4, c4, rfl, hf, kk⟩; have F4 := hid hf; have F34 := hid (F3.out.step kk); have K4 := hid (K3'.out.trans kk); clear hf kk) | (go_at_call 19; refine (HIE.out _ (by exact K5.out)).mono ?_; rintro e x6 ⟨A6, n6, c6, rfl, hn6, hf, kk⟩; have N6 := hid hn6; have F6 := hid hf; have K6 := hid (K5.out.trans kk); clear hn6 hf kk) | (go_at_call 20; refine (HBY.out _ (by exact K6.out)).mono ?_; rintro e x7 ⟨⟨v7, rfl, hr⟩, kk⟩; obtain ⟨A7, c7, rfl⟩ := own_shape hr; have F7 := hid (show Sl A7 (encImg X).length c7 1 (u8s (encImg X)) x7 from by (have h := (own_sl hr (Nat.le_refl _)).1; rwa [List.take_of_length_le (by simp [u8s])] at h)); have F67 := hid (F6.out.step kk); have K7 := hid (K6.out.trans kk); clear hr kk) | (go_at_call 18; refine (rsame_any A6 A7 n6 c6 _ c7 (encImg X) (encImg X) N6.out rfl _ (by exact F67.out.now) (by exact F7.out)).mono ?_; rw [decide_eq_true rfl]; rintro e x8 ⟨rfl, hw⟩; have K8 := hid (show Kp All w9 x8 from by (rw [← hw]; exact K7.out)); clear hw) | (go_at_call 8; refine (HLV.out _ (HKW.out.trans (by exact K8.out))).mono ?_; rintro e x9 ⟨rfl, kk⟩; have K9 := hid (K8.out.trans kk); clear kk))
        all_goals
          go_wp2_with fail
          go_ret
          exact ⟨rfl, K3.out.trans (HKW.out.trans K9.out)⟩
end Go.Proofs.YtodledidabdkaaaGreatDoor
