/- Ids of the session table: its ids, rising: walked once, over the library's contracts. No condition on the table but that it lies as Tab says, and that its ids are ints. -/
import Derived.Test.YtkipijdbkkcioaaBY
import Derived.Test.YtkipijdbkkcioaaII
import Derived.Test.YtkipijdbkkcioaaSE
import Derived.RangeFuncBox
import Derived.RangeFuncLeaves
import Derived.RangeFuncOne
import Derived.Shelf.Abstract
import Derived.OwnWalkIn
import Derived.TacticsInMore
import Derived.LoopNIn
import Derived.LoopIn
import Derived.Maps.AppendAt
namespace Go.Proofs.Ytkipijdbkkcioaa
open Go.RowKit Go.Shelf Go.Maps Go.Sort
set_option linter.unusedVariables false
set_option linter.unusedSimpArgs false
attribute [local go_sem] Oper.semAt_some

abbrev noValI : Value → Option (DataW Unit × List MemPlace) := fun _ => some (.lit (.bool true), [])
theorem imap_own {w : World} {m : Nat} {L : List (Int × Value)} (h : IMap w m L) (hl : L.length ≤ maxLen) (hk : ∀ x ∈ L, (Lit.int .i64 x.1).wf = true) :
    ∃ D0 : DataW Unit, w.ownsMap Try.prog 3 noValI m L.length D0 ∧ (intKeys D0).Perm (L.map (·.1)) ∧ Maps.size D0 = L.length := by
  obtain ⟨es, ck, hb, hst, hL⟩ := h
  have hlen : es.size = L.length := by
    have := congrArg List.length hL
    simpa using this
  have hkeys : ∀ x ∈ es.toList, ∃ y ∈ L, x.key = .int .i64 y.1 := by
    intro x hx
    have : (x.key, x.val) ∈ L.map (fun x => (Value.int .i64 x.1, x.2)) := hL ▸ List.mem_map.2 ⟨x, hx, rfl⟩
    obtain ⟨y, hy, e⟩ := List.mem_map.1 this
    exact ⟨y, hy, (Prod.mk.inj e).1.symm⟩
  have hrd : ∀ x ∈ es.toList, ∃ s : Int, x.key = .int .i64 s ∧ WideElems.rd Try.prog 3 noValI x = some (.int .i64 s, .lit (.bool true)) := by
    intro x hx
    obtain ⟨y, hy, e⟩ := hkeys x hx
    refine ⟨y.1, e, ?_⟩
    unfold WideElems.rd
    rw [e, keyOf_int_mk Try.underlying3 (hk y hy)]
    rfl
  refine ⟨.map ((es.toList.map (WideElems.rg Try.prog 3 noValI)).foldr DataW.insert []), ⟨es, ck, hb, ⟨by rw [hlen]; exact hl, hst, fun x hx => ?_⟩, by rw [hlen]; exact Nat.le_refl _, rfl⟩, ?_, ?_⟩
  · obtain ⟨s, _, h⟩ := hrd x hx
    exact ⟨_, h⟩
  · show ((es.toList.map (WideElems.rg Try.prog 3 noValI)).foldr DataW.insert [] |>.map fun p => _root_.Go.intOf p.1).Perm _
    refine ((WideShapes.sorted_perm _).map _).trans ?_
    rw [List.map_map]
    have : es.toList.map ((fun p : Lit × DataW Unit => _root_.Go.intOf p.1) ∘ WideElems.rg Try.prog 3 noValI) = L.map fun x => x.1 := by
      have h2 : L.map (fun x => x.1) = (L.map fun x => (Value.int .i64 x.1, x.2)).map (fun p => match p.1 with | .int _ s => s | _ => 0) := by
        rw [List.map_map]; rfl
      rw [h2, ← hL, List.map_map]
      apply List.map_congr_left
      intro x hx
      obtain ⟨s, e, h⟩ := hrd x hx
      simp only [Function.comp, WideElems.rg_of h, e, _root_.Go.intOf]
    rw [this]
  · show ((es.toList.map (WideElems.rg Try.prog 3 noValI)).foldr DataW.insert []).length = _
    rw [(WideShapes.sorted_perm _).length_eq, List.length_map]
    simpa using hlen

theorem info_int : (Try.prog.info? 3).map (fun i => (i.zero, i.size, i.bytes)) = some (some (.int .i64 0), 1, 8) := by kernel_rfl
/-- slices.Sort on a row of one's own -/
theorem sort_any (base : Nat) (v : Value) (n : Nat) (zs : List Int) (hn : zs.length = n) (hn2 : n ≤ 1000000) (w : World) (h : w.ownsRow base 3 1 v n (zs.map encZ)) :
    Calls Try.prog 31 #[v] w fun e w' => e = .returned (.tuple #[]) ∧ w'.ownsRow base 3 1 v n ((zs.mergeSort fun x y => decide (x ≤ y)).map encZ) ∧ w.grownBy w' v.ownBlock := by
  subst hn
  rcases h.2 with ⟨rfl, hz⟩ | ⟨gb, cap, cur, rfl, hbase, hgb, r1, r2, r3, r4⟩
  · have hss : zs = [] := List.eq_nil_of_length_eq_zero hz
    subst hss
    have hc := AnyM.slices_Sort_int_none Try.sortI none 0 w
    change Calls Try.prog 31 _ _ _ at hc
    refine hc.mono ?_
    rintro e w' ⟨rfl, rfl⟩
    exact ⟨rfl, by simpa using h, ⟨rfl, rfl, rfl, Nat.le_refl _, fun _ _ _ => rfl⟩⟩
  · have hH : Holds encZ w gb 0 zs.toArray := holds_of_block_i hgb (by simpa using r4)
    have hgl : gb < w.heap.size := (Array.getElem?_eq_some_iff.1 hgb).1
    have hc := AnyM.slices_Sort_int Try.sortI gb 0 cap zs w hH hgl (by omega)
    change Calls Try.prog 31 _ _ _ at hc
    refine hc.mono ?_
    rintro e w' ⟨rfl, nn, os, rfl⟩
    exact ⟨rfl, ownsRow_sorted_i (by simp) hbase hgb r1 r2 r3, grownBy_sorted_i _⟩
def IdsP (w : World) (T : List (Int × Int × RD)) (e : Ending) (w' : World) : Prop :=
  ∃ (v : Value) (ks : List Int), e = .returned v ∧ ks.Perm (T.map (·.1)) ∧ ks.Pairwise (· ≤ ·) ∧ w'.ownsRow w.heap.size 3 1 v ks.length (ks.map (Value.int .i64)) ∧ Kp All w w'
set_option maxRecDepth 100000 in
set_option maxHeartbeats 2000000 in
theorem ids_any (S : Nat → Prop) (p m : Nat) (T : List (Int × Int × RD)) (hw : ∀ x ∈ T, (Lit.int .i64 x.1).wf = true) (hl : T.length ≤ 1000) (w : World) (h : Tab S w p m T) :
    Calls Try.prog 16 #[.pointer (some ⟨p, 0, none⟩)] w (IdsP w T) := by
  refine (callsIn_wide (n := 6)).1 ?_
  obtain ⟨X, hX, hT, hF⟩ := h.map
  have hmx : (9223372036854775807 : Nat) ≤ maxLen := by decide
  have hXl : X.length = T.length := by rw [hT, List.length_map]
  obtain ⟨D0, hown, hperm, hsize⟩ := imap_own hX (by rw [List.length_map]; omega) (fun x hx => by
    obtain ⟨y, hy, rfl⟩ := List.mem_map.1 hx
    exact hw (y.1, y.2.seq, y.2.r) (by rw [hT]; exact List.mem_map.2 ⟨y, hy, rfl⟩))
  rw [List.length_map] at hown hsize
  have hp2 : (intKeys D0).Perm (T.map (·.1)) := by
    rw [List.map_map] at hperm
    rw [hT, List.map_map]
    exact hperm
  have c0 := blk_cell h.cell
  have hp : p < w.heap.size := blk_lt h.cell
  have HC := hid h.cell
  obtain ⟨i0, hi, hz0, hz1, hz2⟩ := info_parts info_int
  have cK : ∀ mb W, CallsIn Fence.wide 5 Try.prog 30 #[.map mb] W fun e w' => e = .returned (.func (.func 47) #[] #[.pointer (some ⟨W.heap.size, 0, none⟩)]) ∧ w' = W.alloc (.cells #[.map mb] 58) := fun mb W => AnyZI.keys_in Try.keysI Fence.wide 5 trivial rfl mb W
  have HOW := hid hown; have HSZ := hid hsize; have HP2 := hid hp2; have HXL := hid hXl; have HL := hid hl
  have hf26 : Fence.wide.fn 26 := trivial
  have hfK : Fence.wide.fn 30 := trivial
  have hfS : Fence.wide.fn 31 := trivial
  clear h hX hT hF hXl hown hperm hsize hp2 hw hl
  refine callsIn_of_wp_marks Try.func16 rfl trivial ?_ rfl
  simp only [Try.ntmps16, List.size_toArray, List.length_cons, List.length_nil, Nat.reduceAdd, Nat.reduceSub, Array.replicate_succ, Array.replicate_zero, List.push_toArray, List.append_toArray, List.nil_append, List.cons_append]
  gi_wp2_with (first | (gi_at_call 26; refine (callsIn_wide.2 (made_yes p m w HC.out)).mono ?_; rintro e w' ⟨rfl, rfl⟩) | (gi_at_call 30; refine (cK _ _).mono ?_; rintro e w' ⟨rfl, rfl⟩))
  have bO := Boxed.new w 39 (.slice none 0 0)
  have bM := Boxed.new (w.alloc (.cells #[.slice none 0 0] 39)) 58 (.map (some m))
  rw [World.size_alloc] at bM
  have hB0 : Below w.heap.size w ((w.alloc (.cells #[.slice none 0 0] 39)).alloc (.cells #[.map (some m)] 58)) := ((Below.refl _ w).alloc (Nat.le_refl _) _).alloc (by simp) _
  have hmlt : m < w.heap.size := HOW.out.lt
  have how2 : World.ownsMap ((w.alloc (.cells #[.slice none 0 0] 39)).alloc (.cells #[.map (some m)] 58)) Try.prog 3 noValI m X.length D0 := by
    obtain ⟨es, clock, hb, Ft, hs, hD⟩ := HOW.out
    exact ⟨es, clock, hB0.block m hmlt |>.trans hb, Ft, hs, hD⟩
  have hseq := AnyZI.keys_stops (ρ := Try.keysI_ren) { Try.keysI with } Fence.wide 5 trivial rfl (by omega) (w.heap.size + 1) m X.length D0 _ (by simp) bM.cell how2
  refine wpIn_rangeFunc_ownG (n := 6) rfl (by omega) (gf := 47) (lb := #[.pointer (some ⟨w.heap.size + 1, 0, none⟩)]) rfl trivial (enters_of Try.func47 (by kernel_rfl) rfl)
    (encs := fun x => #[encZ x]) (Kp := KeepsWalks) hseq walksK_t walksK_b (Below.refl _ _) (fun _ => rfl)
    (fun pre W => (∃ v, Boxed W w.heap.size 39 v ∧ W.ownsRow w.heap.size 3 1 v pre.length (pre.map (Value.int .i64)) ∧ True) ∧ Below w.heap.size w W)
    (fun _ _ _ => False)
    (OwnFrom.and (Own.from (holdsRow_own w.heap.size w.heap.size 39 3 1 (fun pre : List Int => pre.length) (fun pre => pre.map (Value.int .i64)) (fun pre v => True)) _) (ownFrom_below (Nat.le_refl _) (by simp; omega)))
    (fun _ _ _ _ _ hs _ _ => hs)
    ⟨⟨_, bO.alloc _, World.ownsRow_nil _ _ _ _, trivial⟩, hB0⟩
    (fun x => { tmps := #[.pointer (some ⟨p, 0, none⟩), undef, .slice none 0 0, .pointer (some ⟨w.heap.size, 0, none⟩), .int .i64 x, .pointer (some ⟨p, 0, none⟩), .bool true, .bool false, .pointer (some ⟨p, 0, none⟩), .pointer (some ⟨p, 0, none⟩), .pointer (some ⟨p, 0, none⟩), .map (some m), .func (.func 47) #[] #[.pointer (some ⟨w.heap.size + 1, 0, none⟩)], .int .i64 x, undef, undef, undef, undef, undef, undef, undef], defers := [] }) ?assign ?body ?done ?stop
  case assign =>
    intro l x W K hK
    gi_wp2
    exact hK
  case body =>
    rintro l pre x W ⟨⟨v, hv, hrow, _⟩, hB⟩ hlt
    have hc := hv.cell
    have hN : pre.length < 1000 := by rw [HSZ.out, HXL.out] at hlt; have := HL.out; omega
    gi_wp2_with (gi_at_builtin; refine wpListIn_append_own _ rfl _ _ 39 rfl w.heap.size 3 i0 (.int .i64 0) 1 8 Try.underlying39 hi hz0 hz1 hz2 rfl (by decide) _ _ _ rfl (hrow.alloc _) ⟨W.heap.size, 0, none⟩ 1 1 [.int .i64 x] rfl rfl (cell_one_new _ _ _) (by simp [Value.oneCell']) (by omega) (by omega) (by have := hB.size; simp; omega) ?_; intro v' w1 hown' hgrow _; obtain ⟨g', cap', rfl⟩ := ownsRow_succ hown'; obtain ⟨hv1, hv2, hr2, hk2, hb2⟩ := hv.appended (by decide) hrow hB.size (Nat.le_refl _) hown' hgrow; have hc1 := hv1.cell; have hf1 := hv1.frozen)
    exact ⟨hk2.from _, hk2.walks, ⟨_, hv2, by simpa using hr2, trivial⟩, hB.trans hb2⟩
  case done =>
    rintro D ys W hD ⟨hS1, _⟩ ⟨⟨v, hv, hrow, _⟩, hB⟩ hK
    have hc := hv.cell
    obtain ⟨VA, vc, rfl⟩ := own_shape hrow
    have hyl : ys.length ≤ 1000 := by
      have h1 := (hS1.trans HP2.out).length_eq
      rw [List.length_map] at h1
      have := HL.out
      omega
    obtain ⟨n, hn⟩ : ∃ n, ys.length = n := ⟨_, rfl⟩
    rw [hn] at hrow hc hyl
    have HN := hid hn
    have hnb : some w.heap.size ≠ (Value.slice VA n vc).ownBlock := by
      rw [← hn]
      exact hv.not_row (e := 3) (by decide) (by rw [hn]; exact hrow)
    have hnd : some D ≠ (Value.slice VA n vc).ownBlock := fun e => by
      rcases own_at hrow with ⟨e1, _⟩ | ⟨g, cap, cur, e1, hg, _⟩
      · rw [e1] at e; cases e
      · rw [e1] at e
        injection e with e
        simp only at e
        rw [← e, hK] at hg
        cases hg
    have HV := hid hv; have HROW := hid hrow; have HK := hid hK; have HB := hid hB; have HS1 := hid hS1
    clear hn hv hrow hK hB hS1
    gi_wp2_with fail
    refine (callsIn_wide.2 (sort_any w.heap.size _ n ys HN.out (by omega) W HROW.out)).mono ?_
    rintro e w2 ⟨rfl, hr2, hg2⟩
    have hv2 : Boxed w2 w.heap.size 39 (.slice VA n vc) := by
      have h0 := HV.out
      rw [HN.out] at h0
      exact h0.kept hg2 hnb
    have hc2 := hv2.cell
    have hK2 : w2.heap[D]? = some (.deferred (some [])) := (hg2.block D (Array.getElem?_eq_some_iff.1 HK.out).1 hnd).trans HK.out
    have HK2 := hid hK2; have HR2 := hid hr2; have HG2 := hid hg2
    clear hK2 hr2 hg2 hv2
    gi_wp2_with fail
    refine ⟨by simp, .inl ⟨_, _, rfl, run_takeDeferred HK2.out, ?_⟩⟩
    have hml : (ys.mergeSort fun x y => decide (x ≤ y)).Perm ys := List.mergeSort_perm ys _
    have hB2 : Below w.heap.size w w2 := HB.out.grown HG2.out HB.out.size (fun k e => (HROW.out.lt k e).1)
    have hDw : w.heap.size ≤ D := by simp at hD; omega
    refine ⟨_, results_tmp rfl _ _ _, .slice VA n vc, ys.mergeSort fun x y => decide (x ≤ y), rfl, hml.trans (HS1.out.trans HP2.out), ?_, ?_, Kp.of_below (hB2.trans (belowK_b (w := w) (Nat.le_refl _) w2 D _ _ hDw HK2.out rfl rfl)) (Nat.le_refl _)⟩
    · have hpw := List.pairwise_mergeSort (le := fun x y : Int => decide (x ≤ y)) (fun a b c h1 h2 => by
        simp only [decide_eq_true_eq] at *
        omega) (fun a b => by
        simp only [Bool.or_eq_true, decide_eq_true_eq]
        omega) ys
      exact hpw.imp fun h => by simpa using h
    · rw [hml.length_eq, HN.out]
      exact ownsRow_putObj HR2.out _ HK2.out rfl
  case stop =>
    rintro D c pre W _ _ h _
    exact h.elim
end Go.Proofs.Ytkipijdbkkcioaa
