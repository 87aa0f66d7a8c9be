/- How the image laws' arguments are read. No condition. How the image laws' seeds and rows of pairs are read. No condition. The law's few: walked once. No condition but that the row lies. Two maps in one memory: made and filled. No condition but where the library's variable lies. The document's Same of pairs: walked once. No condition but that the rows lie. Two maps side by side: what the image laws ask of them. No condition but that the maps lie. The map's Delete walked. No condition but that the map lies and is sound, and where the table of shifts lies. -/
import Derived.Test.YtodledidabdkaaaGreatDoorR0
import Derived.Test.YtodledidabdkaaaGreatDoorM12
import Derived.Test.YtodledidabdkaaaGreatDoorM4
import Derived.Test.YtodledidabdkaaaGreatDoorM11
import Derived.Test.YtodledidabdkaaaGreatDoorM10
import Derived.Test.YtodledidabdkaaaGreatDoorM9
import Derived.Test.YtodledidabdkaaaGreatDoorM6
set_option linter.unusedVariables false
set_option linter.unusedSimpArgs false
namespace Go.Proofs.YtodledidabdkaaaGreatDoor
open Go.ChangeShapes Go.WideShapes Go.RowKit Go.Deep
set_option linter.unusedVariables false
noncomputable def rdI : Rdr Tryz.prog 3 Int := .int Tryz.underlying3 (by kernel_rfl)
noncomputable def rdS : Rdr Tryz.prog 9 ByteArray := .string Tryz.underlying9 (by kernel_rfl)
noncomputable def rdAsk : Rdr Tryz.prog 27 (ByteArray × ByteArray × Int × Unit) := .struct (.cons rdS rfl (.cons rdS rfl (.cons rdI rfl (.nil _)))) Tryz.underlying27 (by kernel_rfl)
theorem ask_of {w : World} {x : ByteArray × ByteArray × Int × Unit} {cs : Array Value} (h : rdAsk.rel w x (Value.agg cs).cells.toList) : cs = #[.string x.1, .string x.2.1, .int .i64 x.2.2.1] := by
  obtain ⟨c1, c2, h1, ⟨rfl, _⟩, c3, c4, rfl, ⟨rfl, _⟩, c5, c6, rfl, ⟨rfl, _⟩, rfl⟩ := h
  have h1' : cs.toList = [.string x.1, .string x.2.1, .int .i64 x.2.2.1] := h1
  have e : cs = (cs.toList).toArray := by simp
  rw [e, h1']
end Go.Proofs.YtodledidabdkaaaGreatDoor

namespace Go.Proofs.YtodledidabdkaaaGreatDoor
open Go.ChangeShapes Go.WideShapes Go.RowKit Go.Deep V
set_option linter.unusedVariables false
noncomputable def rdU : Rdr Tryz.prog 22 Int := .int Tryz.underlying22 (by kernel_rfl)
abbrev KeyT := Int × Int × Unit
noncomputable def rdKey : Rdr Tryz.prog 24 KeyT := .struct (.cons rdU rfl (.cons rdU rfl (.nil _))) Tryz.underlying24 (by kernel_rfl)
abbrev PairT := ByteArray × ByteArray × Unit
noncomputable def rdPair : Rdr Tryz.prog 35 PairT := .struct (.cons rdS rfl (.cons rdS rfl (.nil _))) Tryz.underlying35 (by kernel_rfl)
noncomputable def rdPairs : Rdr Tryz.prog 25 (SlV PairT) := rdPair.slice Tryz.underlying25 (by kernel_rfl) (by decide)
theorem wf_u64 {n : Int} (h : (Lit.int .u64 n).wf = true) : 0 ≤ n ∧ n < 18446744073709551616 := by
  simp [Lit.wf] at h
  have e1 : IntKind.u64.min = 0 := rfl
  have e2 : IntKind.u64.max = 18446744073709551615 := rfl
  omega
theorem key_of {w : World} {x : KeyT} {cs : Array Value} (h : rdKey.rel w x (Value.agg cs).cells.toList) : ∃ k0 k1 : Nat, cs = #[.int .u64 k0, .int .u64 k1] ∧ k0 < 18446744073709551616 ∧ k1 < 18446744073709551616 := by
  obtain ⟨c1, c2, h1, ⟨rfl, w1⟩, c3, c4, rfl, ⟨rfl, w2⟩, rfl⟩ := h
  have h1' : cs.toList = [.int .u64 x.1, .int .u64 x.2.1] := h1
  have e : cs = (cs.toList).toArray := by simp
  have b1 := wf_u64 w1
  have b2 := wf_u64 w2
  refine ⟨x.1.toNat, x.2.1.toNat, ?_, by omega, by omega⟩
  rw [e, h1', Int.toNat_of_nonneg b1.1, Int.toNat_of_nonneg b2.1]
def toSl (s : SlV PairT) : List Slot := s.xs.map fun p => (p.1, p.2.1)
theorem toSl_len (s : SlV PairT) : (toSl s).length = s.xs.length := by simp [toSl]
theorem scs_at : ∀ {l : List Slot} {j : Nat} {u : Value}, (scs l)[j]? = some u → ∃ s, l[j / 2]? = some s ∧ ((j % 2 = 0 ∧ u = .string s.1) ∨ (j % 2 = 1 ∧ u = .string s.2))
  | [], j, u, h => by simp [scs] at h
  | x :: r, 0, u, h => by simp [scs] at h; exact ⟨x, rfl, .inl ⟨rfl, h.symm⟩⟩
  | x :: r, 1, u, h => by simp [scs] at h; exact ⟨x, rfl, .inr ⟨rfl, h.symm⟩⟩
  | x :: r, j + 2, u, h => by
    obtain ⟨p, h1, h2⟩ := scs_at (l := r) (j := j) (by simpa [scs] using h)
    refine ⟨p, by rw [show (j + 2) / 2 = j / 2 + 1 from by omega]; simpa using h1, ?_⟩
    rw [show (j + 2) % 2 = j % 2 from by omega]
    exact h2
theorem pairs_rd {w : World} {s : SlV PairT} {cs : List Value} (h : rdPairs.rel w s cs) : cs = [.slice s.A s.xs.length s.c] ∧ Foot All (Sl s.A s.xs.length s.c 2 (scs (toSl s))) w := by
  refine ⟨h.1, fun u hu => ?_⟩
  obtain ⟨_, h2, h3, h4⟩ := rdPairs.keep _ _ _ _ h hu
  refine ⟨by rw [scs_len, toSl_len], h2, fun hn => ?_⟩
  obtain ⟨b, o, e, he⟩ := h4 hn
  refine ⟨b, o, e, fun j v hj => ?_⟩
  obtain ⟨p, hp, hu⟩ := scs_at hj
  simp only [toSl, List.getElem?_map, Option.map_eq_some_iff] at hp
  obtain ⟨q, hq, rfl⟩ := hp
  obtain ⟨c, hc, hcell⟩ := he (j / 2) q hq
  obtain ⟨c1, c2, rfl, ⟨rfl, _⟩, c3, c4, rfl, ⟨rfl, _⟩, rfl⟩ := hc
  rcases hu with ⟨hm, rfl⟩ | ⟨hm, rfl⟩
  · have := hcell 0 _ rfl
    have e : o + j / 2 * rdPair.sz + 0 = o + j := by
      show o + j / 2 * 2 + 0 = o + j
      omega
    rwa [e] at this
  · have := hcell 1 _ rfl
    have e : o + j / 2 * rdPair.sz + 1 = o + j := by
      show o + j / 2 * 2 + 1 = o + j
      omega
    rwa [e] at this
/-- texts of an argument are no longer than memory goes -/
def Szs (l : List Slot) : Prop := l.length ≤ 9000000000000000000 ∧ ∀ x ∈ l, x.1.size ≤ 140737488351232 ∧ x.2.size ≤ 140737488351232
theorem pairs_szs {s : SlV PairT} (h : rdPairs.fits s) : Szs (toSl s) := by
  have h1 : s.xs.length * Tryz.prog.bytesOf 35 ≤ reachBytes := h.1
  have h2 : Tryz.prog.bytesOf 35 = 32 := by kernel_rfl
  rw [h2] at h1
  have h3 : reachBytes = 140737488351232 := by decide
  refine ⟨by rw [toSl_len]; omega, fun x hx => ?_⟩
  obtain ⟨p, hp, rfl⟩ := List.mem_map.1 hx
  obtain ⟨f1, f2, _⟩ := h.2 p hp
  have f1 : p.1.size ≤ reachBytes := f1
  have f2 : p.2.1.size ≤ reachBytes := f2
  exact ⟨by dsimp only; omega, by dsimp only; omega⟩
theorem agg_of {cs : Array Value} {l : List Value} (h : (Value.agg cs).cells.toList = l) : cs = l.toArray := by
  have e : cs = (cs.toList).toArray := by simp
  have h' : cs.toList = l := h
  rw [e, h']
end Go.Proofs.YtodledidabdkaaaGreatDoor

namespace Go.Proofs.YtodledidabdkaaaGreatDoor
open Go.RowKit V
set_option linter.unusedVariables false
set_option linter.unusedSimpArgs false
set_option maxRecDepth 100000 in
theorem few07_any (A : Option Addr) (n c : Nat) (L : List Slot) (hn : L.length = n) (hm : n ≤ 9000000000000000000) (hs : ∀ x ∈ L, x.1.size ≤ 140737488351232 ∧ x.2.size ≤ 140737488351232) (w : World) (h : Foot All (Sl A n c 2 (scs L)) w) :
    Calls Tryz.prog 7 #[.slice A n c] w fun e w' => e = .returned (.bool (fewGo 0 L)) ∧ Kp All w w' := by
  have H := hid h; have HN := hid hn; have HS := hid hs
  clear h hn hs
  obtain ⟨r, hr⟩ : ∃ r, fewGo 0 L = r := ⟨_, rfl⟩
  rw [hr]
  have HR := hid hr
  clear hr
  go_enter Tryz.func7, Tryz.ntmps7
  go_wp2_with fail
  go_loopw [3, 8] (fun y i wr => ∃ k m : Nat, k ≤ n ∧ i = .int .i64 k ∧ y = .int .i64 m ∧ m ≤ 300 ∧ Hid (fewGo m (L.drop k) = r) ∧ Hid (Kp All w wr)) (fun _ i _ => n - (ivl i).toNat)
  case atStart => exact ⟨0, 0, Nat.zero_le _, rfl, rfl, by omega, HR, Kp.refl _ _⟩
  case round =>
    obtain ⟨k, m, hk, rfl, rfl, hm3, hT, hkp⟩ := hrel
    by_cases hlt : k < n
    · have hb0 : decide ((k : Int) < (n : Int)) = true := decide_eq_true (by omega)
      obtain ⟨x, hx⟩ : ∃ x, L[k]? = some x := ⟨_, List.getElem?_eq_getElem (by rw [HN.out]; exact hlt)⟩
      obtain ⟨b, o, rfl, hr⟩ := (H.out wr hkp.out).2.2 (by omega)
      obtain ⟨x1, x2⟩ := x
      obtain ⟨g1, g2⟩ := scs_get hx
      have p1 := hr _ _ g1
      have p2 := hr _ _ g2
      rw [← Nat.add_assoc] at p2
      dsimp only at p1 p2
      have hz := HS.out (x1, x2) (List.mem_of_getElem? hx)
      have hd : L.drop k = (x1, x2) :: L.drop (k + 1) := by
        obtain ⟨h1, h2⟩ := List.getElem?_eq_some_iff.1 hx
        rw [List.drop_eq_getElem_cons h1, h2]
      have hT' := hT.out
      rw [hd, fewGo] at hT'
      dsimp only at hz hT'
      have hb1 := World.block_lt_of_cell? _ _ p1
      have i0 : (0 : Int) ≤ (k : Int) := by omega
      have i1 : (k : Int) < (n : Int) := by omega
      obtain ⟨z, hzz⟩ : ∃ z, z = (x1.size + x2.size) / 50 := ⟨_, rfl⟩
      have hw1 : IntKind.i64.wrap ((x1.size : Int) + (x2.size : Int)) = (x1.size : Int) + (x2.size : Int) := IntWalk.i64_in _ (by omega)
      have hq : Int.tdiv ((x1.size : Int) + (x2.size : Int)) 50 = (z : Int) := by rw [hzz]; rfl
      have hzm : z ≤ 5629499534050 := by omega
      rw [← hzz] at hT'
      have hw2 : IntKind.i64.wrap (z : Int) = (z : Int) := IntWalk.i64_in _ (by omega)
      have hw3 : IntKind.i64.wrap (1 + (z : Int)) = 1 + (z : Int) := IntWalk.i64_in _ (by omega)
      have hw4 : IntKind.i64.wrap ((m : Int) + (1 + (z : Int))) = (m : Int) + (1 + (z : Int)) := IntWalk.i64_in _ (by omega)
      clear hx hr g1 g2 hd hzz hz
      by_cases h3 : 300 < m + (1 + z)
      · rw [if_pos h3] at hT'
        subst hT'
        have d1 : decide ((300 : Int) < (m : Int) + (1 + (z : Int))) = true := decide_eq_true (by omega)
        go_wp2_with fail
        go_ret
        exact ⟨rfl, hkp.out.alloc _⟩
      · rw [if_neg h3] at hT'
        have d1 : decide ((300 : Int) < (m : Int) + (1 + (z : Int))) = false := decide_eq_false (by omega)
        have HT := hid hT'
        clear hT'
        go_wp2_with fail
        exact ⟨⟨k + 1, m + (1 + z), by omega, by go_num, by simp, by omega, HT, hkp.out.alloc _⟩, by simp [ivl]; omega⟩
    · have hb0 : decide ((k : Int) < (n : Int)) = false := decide_eq_false (by omega)
      obtain rfl : k = n := by omega
      have hrt : r = true := by
        rw [← hT.out, List.drop_of_length_le (by rw [HN.out]; exact Nat.le_refl _)]
        rfl
      subst hrt
      go_wp2_with fail
      go_ret
      exact ⟨rfl, hkp.out⟩
end Go.Proofs.YtodledidabdkaaaGreatDoor

namespace Go.Proofs.YtodledidabdkaaaGreatDoor
open Go.RowKit Go.Shelf V
set_option linter.unusedVariables false
set_option linter.unusedSimpArgs false
theorem nm_newg (k0 k1 n : Nat) (h0 : k0 < 18446744073709551616) (h1 : k1 < 18446744073709551616) (hn : n ≤ 7000) (w W : World) (hk : Kp All w W) (hgs : Gs w) : Calls Tryz.prog 5 #[.agg #[.int .u64 k0, .int .u64 k1], .int .i64 n] W fun e w' => ∃ bm k, k ≤ 10 ∧ e = .returned (.pointer (some ⟨bm, 0, none⟩)) ∧ Nm k0 k1 w bm (madeP (2 ^ k)) w' ∧ Kp All W w' := by
  refine (mnew_any k0 k1 n hn W (hgs.kept hk trivial)).mono ?_
  rintro e w' ⟨g, ⟨k, hk10, rfl⟩, _, _, bm, bw, cw, bs, cs, rfl, b1, b2, b3, hm, hk2⟩
  obtain ⟨i0, _, _, _, n0⟩ := made_inv (sipP k0 k1) hk10
  refine ⟨bm, k, hk10, rfl, ⟨fun b => b = bm ∨ b = bw ∨ b = bs, ⟨⟨bw, cw, bs, cs, hm, fun b => Iff.rfl⟩, i0, h0, h1, fun k v h => absurd h (n0 k v)⟩, ?_, hk.trans hk2⟩, hk2⟩
  have := hk.size
  rintro b (rfl | rfl | rfl) <;> omega
/-- two maps made since w lie apart -/
def N2 (a0 a1 b0 b1 : Nat) (w : World) (bp bq : Nat) (P Q : Mp) (W : World) : Prop := ∃ Op Oq, Lm a0 a1 bp P Op W ∧ Lm b0 b1 bq Q Oq W ∧ (∀ b, Op b → w.heap.size ≤ b) ∧ (∀ b, Oq b → w.heap.size ≤ b) ∧ (∀ b, Op b → ¬ Oq b) ∧ Kp All w W
section
variable {a0 a1 b0 b1 : Nat} {w : World} {bp bq : Nat} {P Q : Mp} {W W' : World}
theorem N2.swap (h : N2 a0 a1 b0 b1 w bp bq P Q W) : N2 b0 b1 a0 a1 w bq bp Q P W := by
  obtain ⟨Op, Oq, h1, h2, h3, h4, h5, h6⟩ := h
  exact ⟨Oq, Op, h2, h1, h4, h3, fun b hb ho => h5 b ho hb, h6⟩
theorem N2.kept (h : N2 a0 a1 b0 b1 w bp bq P Q W) (k : Kp All W W') : N2 a0 a1 b0 b1 w bp bq P Q W' := by
  obtain ⟨Op, Oq, h1, h2, h3, h4, h5, h6⟩ := h
  exact ⟨Op, Oq, h1.all k, h2.all k, h3, h4, h5, h6.trans k⟩
theorem N2.old (h : N2 a0 a1 b0 b1 w bp bq P Q W) : Kp All w W := by
  obtain ⟨Op, Oq, h1, h2, h3, h4, h5, h6⟩ := h
  exact h6
theorem N2.fst (h : N2 a0 a1 b0 b1 w bp bq P Q W) : ∃ O, Lm a0 a1 bp P O W := by
  obtain ⟨Op, Oq, h1, h2, h3, h4, h5, h6⟩ := h
  exact ⟨Op, h1⟩
theorem n2_new (n : Nat) (hb0 : b0 < 18446744073709551616) (hb1 : b1 < 18446744073709551616) (hn : n ≤ 7000) (hgs : Gs w) (h : Nm a0 a1 w bp P W) : Calls Tryz.prog 5 #[.agg #[.int .u64 b0, .int .u64 b1], .int .i64 n] W fun e w' => ∃ bq k, k ≤ 10 ∧ e = .returned (.pointer (some ⟨bq, 0, none⟩)) ∧ N2 a0 a1 b0 b1 w bp bq P (madeP (2 ^ k)) w' ∧ Kp All W w' := by
  obtain ⟨O, h1, h2, h3⟩ := h
  refine (nm_newg b0 b1 n hb0 hb1 hn W W (Kp.refl _ _) (hgs.kept h3 trivial)).mono ?_
  rintro e w' ⟨bq, k, hk, rfl, ⟨O', h4, h5, _⟩, h6⟩
  have := h3.size
  exact ⟨bq, k, hk, rfl, ⟨O, O', h1.all h6, h4, h2, fun b hb => Nat.le_trans this (h5 b hb), fun b hb hb' => absurd (h5 b hb') (by have := h1.lt b hb; omega), h3.trans h6⟩, h6⟩
theorem n2_put (key v : Tx) (hkey : key.size ≤ 9000000000000000000) (hgs : Gs w) (h : N2 a0 a1 b0 b1 w bp bq P Q W) : Calls Tryz.prog 9 #[.pointer (some ⟨bp, 0, none⟩), .string key, .string v] W fun e w' => e = .returned (.tuple #[.bool (putP (sipP a0 a1) P key v).2.1, .int .i64 ((putP (sipP a0 a1) P key v).2.2 : Nat)]) ∧ N2 a0 a1 b0 b1 w bp bq (putP (sipP a0 a1) P key v).1 Q w' := by
  obtain ⟨Op, Oq, h1, h2, h3, h4, h5, h6⟩ := h
  refine (mput_any a0 a1 bp P Op key v hkey W (hgs.kept h6 trivial) h1).mono ?_
  rintro e w' ⟨rfl, O', g1, g2, g3⟩
  have := h6.size
  refine ⟨rfl, O', Oq, g1, h2.kept g3 (fun b hb ho => h5 b ho hb), fun b hb => ?_, h4, fun b hb hq => ?_, h6.then g3 fun b hb _ e => absurd (h3 b e) (by omega)⟩
  · rcases Nat.lt_or_ge b W.heap.size with hl | hl
    · exact h3 b (g2 b hl hb)
    · omega
  · exact h5 b (g2 b (h2.lt b hq) hb) hq
theorem n2_put2 (key v : Tx) (hkey : key.size ≤ 9000000000000000000) (hgs : Gs w) (h : N2 a0 a1 b0 b1 w bp bq P Q W) : Calls Tryz.prog 9 #[.pointer (some ⟨bq, 0, none⟩), .string key, .string v] W fun e w' => e = .returned (.tuple #[.bool (putP (sipP b0 b1) Q key v).2.1, .int .i64 ((putP (sipP b0 b1) Q key v).2.2 : Nat)]) ∧ N2 a0 a1 b0 b1 w bp bq P (putP (sipP b0 b1) Q key v).1 w' := by
  refine (n2_put key v hkey hgs h.swap).mono ?_
  rintro e w' ⟨rfl, g⟩
  exact ⟨rfl, g.swap⟩
end
/-- nothing is in a new map -/
theorem made_pairs (H : Tx → Nat) {k : Nat} (hk : k ≤ 10) : pairsP (madeP (2 ^ k)) = [] := by
  obtain ⟨i0, _, _, _, n0⟩ := made_inv H hk
  exact pairs_of i0 List.Pairwise.nil fun k v => ⟨fun h => absurd h (by simp), fun h => absurd h (n0 k v)⟩
end Go.Proofs.YtodledidabdkaaaGreatDoor

namespace Go.Proofs.YtodledidabdkaaaGreatDoor
open Go.RowKit V
set_option linter.unusedVariables false
set_option linter.unusedSimpArgs false
set_option maxRecDepth 100000 in
theorem rsame07_any (A A' : Option Addr) (n n' c c' : Nat) (xs ys : List Slot) (hn : xs.length = n) (hn' : ys.length = n') (hl : n ≤ 9000000000000000000) (hl' : n' ≤ 9000000000000000000) (w : World) (h : Foot All (Sl A n c 2 (scs xs)) w) (h' : Foot All (Sl A' n' c' 2 (scs ys)) w) :
    Calls Tryz.prog 14 #[.slice A n c, .slice A' n' c'] w fun e w' => e = .returned (.bool (decide (xs = ys))) ∧ Kp All w w' := by
  have H := hid h; have H' := hid h'; have HN := hid hn; have HN' := hid hn'
  clear h h' hn hn'
  by_cases he : n = n'
  · subst he
    have bne : (!((n : Int) == (n : Int))) = false := by simp
    obtain ⟨r, hr⟩ : ∃ r, decide (xs = ys) = r := ⟨_, rfl⟩
    have HR := hid hr
    rw [hr]
    clear hr
    go_enter Tryz.func14, Tryz.ntmps14
    go_wp2_with fail
    go_loopw [13] (fun i wr => ∃ k : Nat, k ≤ n ∧ i = .int .i64 k ∧ Hid (xs.take k = ys.take k) ∧ Hid (Kp All w wr)) (fun i _ => n - (ivl i).toNat)
    case atStart => exact ⟨0, Nat.zero_le _, rfl, rfl, Kp.refl _ _⟩
    case round =>
      obtain ⟨k, hk, rfl, hT, hkp⟩ := hrel
      by_cases hlt : k < n
      · have hb0 : decide ((k : Int) < (n : Int)) = true := decide_eq_true (by omega)
        obtain ⟨x, hx⟩ : ∃ x, xs[k]? = some x := ⟨_, List.getElem?_eq_getElem (by rw [HN.out]; exact hlt)⟩
        obtain ⟨y, hy⟩ : ∃ y, ys[k]? = some y := ⟨_, List.getElem?_eq_getElem (by rw [HN'.out]; exact hlt)⟩
        obtain ⟨b, o, rfl, hc⟩ := (H.out wr hkp.out).2.2 (by omega)
        obtain ⟨b', o', rfl, hc'⟩ := (H'.out wr hkp.out).2.2 (by omega)
        obtain ⟨x1, x2⟩ := x
        obtain ⟨y1, y2⟩ := y
        obtain ⟨g1, g2⟩ := scs_get hx
        obtain ⟨g3, g4⟩ := scs_get hy
        have p1 := hc _ _ g1
        have p2 := hc _ _ g2
        have p3 := hc' _ _ g3
        have p4 := hc' _ _ g4
        rw [← Nat.add_assoc] at p2 p4
        dsimp only at p1 p2 p3 p4
        have hnq := fun w => neq_pair x1 x2 y1 y2 w
        have i0 : (0 : Int) ≤ (k : Int) := by omega
        have i1 : (k : Int) < (n : Int) := by omega
        have HX := hid hx; have HY := hid hy
        clear hx hy g1 g2 g3 g4 hc hc'
        by_cases hxy : (x1, x2) = (y1, y2)
        · rw [show (!decide ((x1, x2) = (y1, y2))) = false from by rw [decide_eq_true hxy]; rfl] at hnq
          have HT2 := hid (show xs.take (k + 1) = ys.take (k + 1) by rw [List.take_add_one, List.take_add_one, hT.out, HX.out, HY.out, hxy])
          go_wp2_with fail
          go_quiet (fail)
          go_wp2_with fail
          exact ⟨⟨k + 1, by omega, by go_num, HT2, hkp.out.drewN _⟩, by simp [ivl]; omega⟩
        · rw [show (!decide ((x1, x2) = (y1, y2))) = true from by rw [decide_eq_false hxy]; rfl] at hnq
          have hrf : r = false := by
            rw [← HR.out]
            exact decide_eq_false (fun e => by rw [e, HY.out] at HX; exact hxy (by injection HX.out with h; exact h.symm))
          subst hrf
          go_wp2_with fail
          go_quiet (fail)
          go_wp2_with fail
          go_ret
          exact ⟨rfl, hkp.out.drewN _⟩
      · have hb0 : decide ((k : Int) < (n : Int)) = false := decide_eq_false (by omega)
        obtain rfl : k = n := by omega
        have hrt : r = true := by
          rw [← HR.out]
          have h1 := hT.out
          rw [List.take_of_length_le (by rw [HN.out]; omega), List.take_of_length_le (by rw [HN'.out]; omega)] at h1
          exact decide_eq_true h1
        subst hrt
        go_wp2_with fail
        go_ret
        exact ⟨rfl, hkp.out⟩
  · have bne : (!((n : Int) == (n' : Int))) = true := by simp; omega
    have hrf : decide (xs = ys) = false := decide_eq_false (fun e => he (by rw [← HN.out, ← HN'.out, e]))
    rw [hrf]
    go_enter Tryz.func14, Tryz.ntmps14
    go_wp2_with fail
    go_ret
    exact ⟨rfl, Kp.refl _ _⟩
end Go.Proofs.YtodledidabdkaaaGreatDoor

namespace Go.Proofs.YtodledidabdkaaaGreatDoor
open Go.RowKit Go.Shelf V
set_option linter.unusedVariables false
set_option linter.unusedSimpArgs false
section
variable {a0 a1 b0 b1 : Nat} {w : World} {bp bq : Nat} {P Q : Mp} {W W' : World}
theorem n2_same (h : N2 a0 a1 b0 b1 w bp bq P Q W) : Calls Tryz.prog 31 #[.pointer (some ⟨bp, 0, none⟩), .pointer (some ⟨bq, 0, none⟩)] W fun e w' => e = .returned (.bool (decide (pairsP P = pairsP Q))) ∧ Kp All W w' := by
  obtain ⟨Op, Oq, h1, h2, _⟩ := h
  exact isame_any a0 a1 b0 b1 (some bp) (some bq) P Q Op Oq W h1 h2
theorem n2_self (h : N2 a0 a1 b0 b1 w bp bq P Q W) : Calls Tryz.prog 31 #[.pointer (some ⟨bp, 0, none⟩), .pointer (some ⟨bp, 0, none⟩)] W fun e w' => e = .returned (.bool true) ∧ Kp All W w' := by
  obtain ⟨Op, Oq, h1, h2, _⟩ := h
  refine (isame_any a0 a1 a0 a1 (some bp) (some bp) P P Op Op W h1 h1).mono ?_
  rintro e w' ⟨rfl, k⟩
  exact ⟨by rw [decide_eq_true rfl], k⟩
theorem lm_pairs {O : Nat → Prop} (h : Lm a0 a1 bp P O W) : Calls Tryz.prog 15 #[.pointer (some ⟨bp, 0, none⟩)] W fun e w' => ∃ A c, e = .returned (.slice A (pairsP P).length c) ∧ Foot All (Sl A (pairsP P).length c 2 (scs (pairsP P))) w' ∧ Kp All W w' := by
  refine (ipairs_any a0 a1 (some bp) P O W h).mono ?_
  rintro e w' ⟨v, rfl, hr, k⟩
  obtain ⟨A, c, rfl⟩ := own_shape hr
  exact ⟨A, c, rfl, own_foot2 hr, k⟩
theorem lm_export {O : Nat → Prop} (hz : ∀ x ∈ pairsP P, x.1.size + x.2.size ≤ 1000000) (h : Lm a0 a1 bp P O W) : Calls Tryz.prog 19 #[.pointer (some ⟨bp, 0, none⟩)] W fun e w' => ∃ A n c, e = .returned (.slice A n c) ∧ (encImg (pairsP P)).length = n ∧ Foot All (Sl A n c 1 (u8s (encImg (pairsP P)))) w' ∧ Kp All W w' := by
  refine (iexport_any a0 a1 (some bp) P O W hz h).mono ?_
  rintro e w' ⟨⟨v, rfl, hr⟩, k⟩
  obtain ⟨A, c, rfl⟩ := own_shape hr
  exact ⟨A, _, c, rfl, rfl, fun u hu => by
    have h := (own_sl (own_kept hr hu (fun _ _ => trivial)) (Nat.le_refl _)).1
    rwa [List.take_of_length_le (by simp [u8s])] at h, k⟩
end
theorem lm_range {k0 k1 bm : Nat} {M : Mp} {O : Nat → Prop} {W : World} (h : Lm k0 k1 bm M O W) (lo hi : Tx) (n : Int) : Calls Tryz.prog 16 #[.pointer (some ⟨bm, 0, none⟩), .string lo, .string hi, .int .i64 n] W fun e w' => ∃ A c, e = .returned (.slice A (rangeP (pairsP M) lo hi n).length c) ∧ Foot All (Sl A (rangeP (pairsP M) lo hi n).length c 2 (scs (rangeP (pairsP M) lo hi n))) w' ∧ Kp All W w' := by
  refine (irange_any k0 k1 (some bm) M O lo hi n W h).mono ?_
  rintro e w' ⟨v, rfl, hr, k⟩
  obtain ⟨A, c, rfl⟩ := own_shape hr
  exact ⟨A, c, rfl, own_foot2 hr, k⟩
/-- A map that a row of few pairs made: its pairs are few, and not long. -/
theorem few_pairs {H : Tx → Nat} {k : Nat} (hk : k ≤ 10) {l : List Slot} (hf : fewGo 0 l = true) : (pairsP (putsP H (madeP (2 ^ k)) l)).length ≤ 300 ∧ ∀ x ∈ pairsP (putsP H (madeP (2 ^ k)) l), x.1.size + x.2.size ≤ 15000 := by
  obtain ⟨h1, h2⟩ := few_le hf (by omega)
  obtain ⟨i0, _⟩ := made_inv H hk
  obtain ⟨h3, h4⟩ := puts_made (H := H) hk (l := l) (by omega)
  refine ⟨?_, fun x hx => ?_⟩
  · rw [pairs_len (puts_inv (l := l) i0).slen]; omega
  · obtain ⟨a, b⟩ := x
    exact h2 _ (last_mem ((h4 a b).1 (pairs_mem.1 hx)))
theorem enc_dec {X Y : List Slot} (hX : X.length ≤ 300 ∧ ∀ x ∈ X, x.1.size + x.2.size ≤ 15000) (hY : Y.length ≤ 300 ∧ ∀ x ∈ Y, x.1.size + x.2.size ≤ 15000) : decide (encImg X = encImg Y) = decide (X = Y) := by
  by_cases h : X = Y
  · rw [h]; simp
  · rw [decide_eq_false h, decide_eq_false]
    intro e
    exact h (encImg_inj (by omega) (by omega) (fun x hx => by have := hX.2 x hx; omega) (fun x hx => by have := hY.2 x hx; omega) e)
end Go.Proofs.YtodledidabdkaaaGreatDoor

namespace Go.Proofs.YtodledidabdkaaaGreatDoor
open Go.RowKit Go.Shelf V
set_option linter.unusedVariables false
set_option linter.unusedSimpArgs false
theorem del_tmb {M : Mp} {i c : Nat} (h : M.ctrl[i]? = some c) (hc : c < 128) : Mp.tmb ⟨M.ctrl.set i (delC M i), M.slots.set i zslot⟩ = M.tmb + (if bitsOf (fun b => b == 128) (grp M.ctrl (i / 8)) = 0 then 1 else 0) := by
  have hc2 := countP_set (fun b => b == 254) M.ctrl i c (delC M i) h
  have hb3 : (c == 254) = false := by simp; omega
  simp only [hb3, Bool.false_eq_true, if_false] at hc2
  unfold Mp.tmb
  by_cases hz : bitsOf (fun b => b == 128) (grp M.ctrl (i / 8)) = 0
  · have hx : delC M i = 254 := by unfold delC; rw [if_pos hz]
    rw [hx] at hc2 ⊢
    rw [if_pos hz]
    simpa using hc2
  · have hx : delC M i = 128 := by unfold delC; rw [if_neg hz]
    rw [hx] at hc2 ⊢
    rw [if_neg hz]
    simpa using hc2
set_option maxRecDepth 100000 in
set_option maxHeartbeats 2000000 in
theorem mdel_any (k0 k1 bm : Nat) (M : Mp) (O : Nat → Prop) (key : ByteArray) (hkey : key.size ≤ 9000000000000000000) (w : World) (hgs : Gs w) (h : Lm k0 k1 bm M O w) :
    Calls Tryz.prog 11 #[.pointer (some ⟨bm, 0, none⟩), .string key] w fun e w' => e = .returned (.bool (delP (sipP k0 k1) M key).2) ∧ Lm k0 k1 bm (delP (sipP k0 k1) M key).1 O w' ∧ Kp (fun b => ¬ O b) w w' := by
  obtain ⟨bw, cw, bs, cs, hm, hO⟩ := h.ms
  have hI := h.inv
  have hP := hI.pm
  have hg1 := hP.g1
  have hinv := del_inv hI key
  have HH := hid h; have HM := hid hm; have HOO := hid hO; have HP := hid hP; have HGS := hid hgs
  have HMADE := hid (mmade_yes hg1.1 w hm)
  have HFIND := hid (find_any k0 k1 bm bw cw bs cs M hP h.h0 h.h1 key hkey w hm)
  have hdef : Hid (delP (sipP k0 k1) M key = match findP (sipP k0 k1) M key with
    | none => (M, false)
    | some i => (⟨M.ctrl.set i (delC M i), M.slots.set i zslot⟩, true)) := hid rfl
  obtain ⟨PR, hPR⟩ : ∃ PR, delP (sipP k0 k1) M key = PR := ⟨_, rfl⟩
  rw [hPR] at hinv hdef ⊢
  have HINV := hid hinv
  clear hPR hm hgs hO hinv h hP
  cases hf : findP (sipP k0 k1) M key with
  | none =>
    have hPRe : PR = (M, false) := by rw [hdef.out, hf]
    subst hPRe
    rw [hf] at HFIND
    have d1 : decide ((-1 : Int) < 0) = true := by decide
    clear hf hdef
    go_enter Tryz.func11, Tryz.ntmps11
    go_wp2_with fail
    refine HMADE.out.mono ?_
    rintro e w1 ⟨rfl, hw⟩
    have hw := hw.symm
    subst hw
    go_wp2_with fail
    refine HFIND.out.mono ?_
    rintro e w2 ⟨rfl, hk⟩
    simp only [optV]
    have HK := hid hk
    clear hk
    go_wp2_with fail
    go_ret
    exact ⟨rfl, HH.out.all HK.out, HK.out.all⟩
  | some i =>
    have hPRe : PR = (⟨M.ctrl.set i (delC M i), M.slots.set i zslot⟩, true) := by rw [hdef.out, hf]
    subst hPRe
    rw [hf] at HFIND
    obtain ⟨v0, hFu⟩ := find_mem hI hf
    have hi : i < 8 * M.g := by have := hFu.lt; rw [HP.out.len] at this; exact this
    obtain ⟨c, hc1, hc2, hsl⟩ := hFu
    have HT := hid (del_tmb hc1 hc2)
    have hcnt : M.cnt = Mp.cnt ⟨M.ctrl.set i (delC M i), M.slots.set i zslot⟩ + 1 := by have := HINV.out.2.2.1; simpa using this.symm
    have HCN := hid hcnt
    have hmo := hI.most
    have hro := hI.room
    clear hsl hf hdef hc1 hc2 hcnt
    obtain ⟨q, hq⟩ : ∃ q, q = i / 8 := ⟨_, rfl⟩
    have hqg : q < M.g := by omega
    have hj8 : i % 8 < 8 := by omega
    have hij : i = 8 * q + i % 8 := by omega
    have HEM := hid (fun w => empties_any (grp M.ctrl q) (HP.out.gb q) (HP.out.g8 hqg) w)
    have HST := hid (fun c hc w hg => gset_any (grp M.ctrl q) (HP.out.gb q) (HP.out.g8 hqg) i c (by omega) hc w hg)
    have hquo : Int.tdiv (i : Int) 8 = (q : Int) := by rw [hq]; rfl
    have HIJ := hid hij; have HQ := hid hq
    have d1 : decide ((i : Int) < 0) = false := decide_eq_false (by omega)
    have i0 : (0 : Int) ≤ (i : Int) := by omega
    have i1 : (i : Int) < 8 * (M.g : Int) := by omega
    have q0 : (0 : Int) ≤ (q : Int) := by omega
    have q1 : (q : Int) < (M.g : Int) := by omega
    have hgm := hg1.2
    clear hij hq
    by_cases hz : bitsOf (fun b => b == 128) (grp M.ctrl q) = 0
    · have hx : delC M i = 254 := by unfold delC; rw [← HQ.out, if_pos hz]
      rw [← HQ.out, if_pos hz] at HT
      have d2 : (((bitsOf (fun b => b == 128) (grp M.ctrl q) : Nat) : Int) == 0) = true := by rw [hz]; rfl
      obtain ⟨bb, hbb⟩ : ∃ bb, bitsOf (fun b => b == 128) (grp M.ctrl q) = bb := ⟨_, rfl⟩
      rw [hbb] at HEM d2
      obtain ⟨wq, hwq⟩ : ∃ wq, wd (grp M.ctrl q) = wq := ⟨_, rfl⟩
      simp only [hwq] at HEM HST
      have HWQ := hid hwq
      clear hbb hwq hz
      go_enter Tryz.func11, Tryz.ntmps11
      go_wp2_with fail
      refine HMADE.out.mono ?_
      rintro e w1 ⟨rfl, hw⟩
      have hw := hw.symm
      subst hw
      go_wp2_with fail
      refine HFIND.out.mono ?_
      rintro e w2 ⟨rfl, hk⟩
      simp only [optV]
      have hM2 := HM.out.all hk
      have c2 := blk_cell hM2.str
      have fbm := blk_free hM2.str
      have hwd := hM2.word (by have := HP.out.len; omega) hqg
      rw [HWQ.out] at hwd
      have HK := hid hk; have HM2 := hid hM2
      clear hk hM2
      go_wp2_with fail
      refine (HEM.out _).mono ?_
      rintro e w3 ⟨rfl, hw⟩
      have hw := hw.symm
      subst hw
      go_wp2_with fail
      obtain ⟨V, hV⟩ : ∃ V, V = w2.setCell ⟨bm, 5, none⟩ (.int .i64 ((M.tmb : Int) + 1)) := ⟨_, rfl⟩
      rw [← hV]
      have HMV : Hid (Mr k0 k1 bm bw cw bs cs M.g M.ctrl M.slots M.cnt ((M.tmb : Int) + 1) V) := hid (by rw [hV]; exact HM2.out.setT _)
      have HKV : Hid (Kp (fun b => ¬ O b) w V) := hid (by rw [hV]; exact HK.out.all.setOut (fun h => h ((HOO.out _).2 (.inl rfl))) _)
      clear hV fbm c2 hwd
      have cv := blk_cell HMV.out.str
      have fv := blk_free HMV.out.str
      have hwd := HMV.out.word (by have := HP.out.len; omega) hqg
      rw [HWQ.out] at hwd
      have HGV : Hid (Gs V) := hid (HGS.out.kept HKV.out (HH.out.nog))
      obtain ⟨cur, hcur⟩ : ∃ cur, V.heap[bw]? = some (.cells cur 22 (0, 0)) := by obtain ⟨c, e, _⟩ := HMV.out.wds; exact ⟨c, e⟩
      have fw := blk_free hcur
      obtain ⟨cur2, hcur2, hcz⟩ : ∃ cur2, V.heap[bs]? = some (.cells cur2 70 (0, 0)) ∧ cur2.size = cs * 2 := by obtain ⟨c, e, e2, _⟩ := HMV.out.sls; exact ⟨c, e, e2⟩
      have fs := blk_free hcur2
      have hcsl := HMV.out.csl
      obtain ⟨u1, fc1⟩ : ∃ u, V.cell? ⟨bs, i * 2, none⟩ = some u := ⟨_, by rw [blk_cell hcur2]; exact Array.getElem?_eq_getElem (by omega)⟩
      obtain ⟨u2, fc2⟩ : ∃ u, V.cell? ⟨bs, i * 2 + 1, none⟩ = some u := ⟨_, by rw [blk_cell hcur2]; exact Array.getElem?_eq_getElem (by omega)⟩
      have e1 : ¬ bm = bw := HMV.out.d1
      have e2 : ¬ bm = bs := HMV.out.d2
      have e3 : ¬ bw = bs := HMV.out.d3
      have e4 : ¬ bw = bm := Ne.symm e1
      have e5 : ¬ bs = bm := Ne.symm e2
      have e6 : ¬ bs = bw := Ne.symm e3
      clear hcur hcur2
      refine RegionLast.wp_region_end_quiet (by kernel_rfl) (by kernel_rfl) (by kernel_rfl) ?_; simp only [List.length_cons, List.length_nil, Nat.zero_add, Nat.reduceAdd, Nat.reduceSub, List.take_succ_cons, List.take_zero, List.drop_succ_cons, List.drop_zero]
      repeat (go_big_quiet_step ((go_at_call 41; refine (HST.out 254 (by omega) _ (HGV.out.all ((Kp.refl _ _).drewN _))).mono ?_; rintro e w4 ⟨rfl, rfl⟩; exact ⟨rfl, _, rfl⟩)))
      refine wpQuiet_nil ?_; intro _ hw'; obtain ⟨nq, hw''⟩ := hw'; subst hw''
      go_wp2_with fail
      go_ret
      refine ⟨rfl, ⟨⟨bw, cw, bs, cs, ?_, HOO.out⟩, HINV.out.1, HH.out.h0, HH.out.h1, fun k v hh => HH.out.keys k v ((HINV.out.2.2.2 k v).1 hh).2⟩, ?_⟩
      · have h5 := (((HMV.out.all ((Kp.refl _ V).drewN nq)).setW (x := 254) (by have := HP.out.len; omega) hj8 hqg).setS i zslot).setN ((M.cnt : Int) - 1)
        rw [← HIJ.out] at h5
        have hgg : Mp.g ⟨M.ctrl.set i 254, M.slots.set i zslot⟩ = M.g := by simp [Mp.g]
        rw [hx] at HCN HT ⊢
        show Mr k0 k1 bm bw cw bs cs (Mp.g ⟨M.ctrl.set i 254, M.slots.set i zslot⟩) (M.ctrl.set i 254) (M.slots.set i zslot) (Mp.cnt ⟨M.ctrl.set i 254, M.slots.set i zslot⟩ : Nat) (Mp.tmb ⟨M.ctrl.set i 254, M.slots.set i zslot⟩ : Nat) _
        rw [hgg, HT.out, show ((Mp.cnt ⟨M.ctrl.set i 254, M.slots.set i zslot⟩ : Nat) : Int) = (M.cnt : Int) - 1 from by rw [HCN.out]; omega]
        exact h5
      · exact ((((HKV.out.drewN nq).setOut (fun h => h ((HOO.out _).2 (.inr (.inl rfl)))) _).setOut (fun h => h ((HOO.out _).2 (.inr (.inr rfl)))) _).setOut (fun h => h ((HOO.out _).2 (.inr (.inr rfl)))) _).setOut (fun h => h ((HOO.out _).2 (.inl rfl))) _
    · have hx : delC M i = 128 := by unfold delC; rw [← HQ.out, if_neg hz]
      rw [← HQ.out, if_neg hz] at HT
      have d2 : (((bitsOf (fun b => b == 128) (grp M.ctrl q) : Nat) : Int) == 0) = false := by simp; omega
      obtain ⟨bb, hbb⟩ : ∃ bb, bitsOf (fun b => b == 128) (grp M.ctrl q) = bb := ⟨_, rfl⟩
      rw [hbb] at HEM d2
      obtain ⟨wq, hwq⟩ : ∃ wq, wd (grp M.ctrl q) = wq := ⟨_, rfl⟩
      simp only [hwq] at HEM HST
      have HWQ := hid hwq
      clear hbb hwq hz
      go_enter Tryz.func11, Tryz.ntmps11
      go_wp2_with fail
      refine HMADE.out.mono ?_
      rintro e w1 ⟨rfl, hw⟩
      have hw := hw.symm
      subst hw
      go_wp2_with fail
      refine HFIND.out.mono ?_
      rintro e w2 ⟨rfl, hk⟩
      simp only [optV]
      have hM2 := HM.out.all hk
      have c2 := blk_cell hM2.str
      have fbm := blk_free hM2.str
      have hwd := hM2.word (by have := HP.out.len; omega) hqg
      rw [HWQ.out] at hwd
      have HK := hid hk; have HM2 := hid hM2
      clear hk hM2
      go_wp2_with fail
      refine (HEM.out _).mono ?_
      rintro e w3 ⟨rfl, hw⟩
      have hw := hw.symm
      subst hw
      go_wp2_with fail
      obtain ⟨V, hV⟩ : ∃ V, V = w2 := ⟨_, rfl⟩
      rw [← hV]
      have HMV : Hid (Mr k0 k1 bm bw cw bs cs M.g M.ctrl M.slots M.cnt (M.tmb : Int) V) := hid (by rw [hV]; exact HM2.out)
      have HKV : Hid (Kp (fun b => ¬ O b) w V) := hid (by rw [hV]; exact HK.out.all)
      clear hV fbm c2 hwd
      have cv := blk_cell HMV.out.str
      have fv := blk_free HMV.out.str
      have hwd := HMV.out.word (by have := HP.out.len; omega) hqg
      rw [HWQ.out] at hwd
      have HGV : Hid (Gs V) := hid (HGS.out.kept HKV.out (HH.out.nog))
      obtain ⟨cur, hcur⟩ : ∃ cur, V.heap[bw]? = some (.cells cur 22 (0, 0)) := by obtain ⟨c, e, _⟩ := HMV.out.wds; exact ⟨c, e⟩
      have fw := blk_free hcur
      obtain ⟨cur2, hcur2, hcz⟩ : ∃ cur2, V.heap[bs]? = some (.cells cur2 70 (0, 0)) ∧ cur2.size = cs * 2 := by obtain ⟨c, e, e2, _⟩ := HMV.out.sls; exact ⟨c, e, e2⟩
      have fs := blk_free hcur2
      have hcsl := HMV.out.csl
      obtain ⟨u1, fc1⟩ : ∃ u, V.cell? ⟨bs, i * 2, none⟩ = some u := ⟨_, by rw [blk_cell hcur2]; exact Array.getElem?_eq_getElem (by omega)⟩
      obtain ⟨u2, fc2⟩ : ∃ u, V.cell? ⟨bs, i * 2 + 1, none⟩ = some u := ⟨_, by rw [blk_cell hcur2]; exact Array.getElem?_eq_getElem (by omega)⟩
      have e1 : ¬ bm = bw := HMV.out.d1
      have e2 : ¬ bm = bs := HMV.out.d2
      have e3 : ¬ bw = bs := HMV.out.d3
      have e4 : ¬ bw = bm := Ne.symm e1
      have e5 : ¬ bs = bm := Ne.symm e2
      have e6 : ¬ bs = bw := Ne.symm e3
      clear hcur hcur2
      refine RegionLast.wp_region_end_quiet (by kernel_rfl) (by kernel_rfl) (by kernel_rfl) ?_; simp only [List.length_cons, List.length_nil, Nat.zero_add, Nat.reduceAdd, Nat.reduceSub, List.take_succ_cons, List.take_zero, List.drop_succ_cons, List.drop_zero]
      repeat (go_big_quiet_step ((go_at_call 41; refine (HST.out 128 (by omega) _ (HGV.out.all ((Kp.refl _ _).drewN _))).mono ?_; rintro e w4 ⟨rfl, rfl⟩; exact ⟨rfl, _, rfl⟩)))
      refine wpQuiet_nil ?_; intro _ hw'; obtain ⟨nq, hw''⟩ := hw'; subst hw''
      go_wp2_with fail
      go_ret
      refine ⟨rfl, ⟨⟨bw, cw, bs, cs, ?_, HOO.out⟩, HINV.out.1, HH.out.h0, HH.out.h1, fun k v hh => HH.out.keys k v ((HINV.out.2.2.2 k v).1 hh).2⟩, ?_⟩
      · have h5 := (((HMV.out.all ((Kp.refl _ V).drewN nq)).setW (x := 128) (by have := HP.out.len; omega) hj8 hqg).setS i zslot).setN ((M.cnt : Int) - 1)
        rw [← HIJ.out] at h5
        have hgg : Mp.g ⟨M.ctrl.set i 128, M.slots.set i zslot⟩ = M.g := by simp [Mp.g]
        rw [hx] at HCN HT ⊢
        show Mr k0 k1 bm bw cw bs cs (Mp.g ⟨M.ctrl.set i 128, M.slots.set i zslot⟩) (M.ctrl.set i 128) (M.slots.set i zslot) (Mp.cnt ⟨M.ctrl.set i 128, M.slots.set i zslot⟩ : Nat) (Mp.tmb ⟨M.ctrl.set i 128, M.slots.set i zslot⟩ : Nat) _
        rw [hgg, HT.out, show ((Mp.cnt ⟨M.ctrl.set i 128, M.slots.set i zslot⟩ : Nat) : Int) = (M.cnt : Int) - 1 from by rw [HCN.out]; omega]
        exact h5
      · exact ((((HKV.out.drewN nq).setOut (fun h => h ((HOO.out _).2 (.inr (.inl rfl)))) _).setOut (fun h => h ((HOO.out _).2 (.inr (.inr rfl)))) _).setOut (fun h => h ((HOO.out _).2 (.inr (.inr rfl)))) _).setOut (fun h => h ((HOO.out _).2 (.inl rfl))) _
end Go.Proofs.YtodledidabdkaaaGreatDoor
