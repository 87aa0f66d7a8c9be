/- SessionActs: for every input of no great bulk the law answers true and leaves its argument as it was. Condition: the input's bulk (UptoSaid). -/
import Derived.Test.YtkipijdbkkcioaaSR
import Derived.Test.YtkipijdbkkcioaaCT
import Derived.JoinedCond
namespace Go.Proofs.Ytkipijdbkkcioaa
open Go.ChangeShapes Go.WideShapes Go.RowKit Go.Deep
set_option linter.unusedVariables false
theorem int_range {x : Int} {cs : List Value} {w : World} (h : rdInt.rel w x cs) : -9223372036854775808 ≤ x ∧ x ≤ 9223372036854775807 := by
  obtain ⟨_, hw⟩ := h
  simp [Lit.wf] at hw
  have e1 : IntKind.i64.min = -9223372036854775808 := rfl
  have e2 : IntKind.i64.max = 9223372036854775807 := rfl
  omega
theorem err_range {x : Int} {cs : List Value} {w : World} (h : rdErr.rel w x cs) : -9223372036854775808 ≤ x ∧ x ≤ 9223372036854775807 := by
  obtain ⟨_, hw⟩ := h
  simp [Lit.wf] at hw
  have e1 : IntKind.i64.min = -9223372036854775808 := rfl
  have e2 : IntKind.i64.max = 9223372036854775807 := rfl
  omega
theorem pair_bulk (p : PairT) : rdPair.bulk p = (p.1.size + 1) + ((p.2.1.size + 1) + 0) := rfl
theorem encPairs_bulk (ps : List PairT) : (encPairs (ps.map fun p => (p.1, p.2.1))).length ≤ 20 * bulks rdPair.bulk ps := by
  induction ps with
  | nil => simp [encPairs]
  | cons p ps ih =>
    have h1 := encText_len p.1
    have h2 := encText_len p.2.1
    have hb := pair_bulk p
    simp only [encPairs, List.map_cons, List.flatMap_cons, List.length_append, bulks] at ih ⊢
    omega
theorem bulks_len (ps : List PairT) : ps.length ≤ bulks rdPair.bulk ps := by
  induction ps with
  | nil => simp [bulks]
  | cons p ps ih =>
    have hb := pair_bulk p
    simp only [List.length_cons, bulks]
    omega
theorem reply_bulk (x : ReplyT) : rdReply.bulk x = 1 + (1 + ((x.2.2.1.size + 1) + (1 + ((bulks rdPair.bulk x.2.2.2.2.1.xs + 1) + 0)))) := rfl
theorem act_bulk (x : ActT) : rdAct.bulk x = 1 + (1 + (1 + (rdReply.bulk x.2.2.2.1 + 0))) := rfl
theorem encReply_bulk (x : ReplyT) : (encReply (toR x)).length ≤ 100 + 20 * rdReply.bulk x := by
  have h1 := encPairs_bulk x.2.2.2.2.1.xs
  have h2 := encText_len x.2.2.1
  have h3 := enc_len_le (zig (toR x).err)
  have h4 := enc_len_le (zig (toR x).sess)
  have h5 := enc_len_le (toR x).pairs.length
  have h6 := reply_bulk x
  have e1 : (toR x).pairs = x.2.2.2.2.1.xs.map fun p => (p.1, p.2.1) := rfl
  have e2 : (toR x).val = x.2.2.1 := rfl
  rw [← e1] at h1
  rw [← e2] at h2
  have e3 : (encBool (toR x).found).length = 1 := rfl
  simp only [encReply, encHead, List.length_append, encZg]
  rw [e2] at h2 ⊢
  omega
theorem act_ok {W : World} {x : ActT} {cs : List Value} (h : rdAct.rel W x cs) (hf : rdAct.fits x) (hb : rdAct.bulk x ≤ 1048576) : AcOk (toA x) := by
  have h0 := act_of h
  obtain ⟨c1, c2, rfl, hi1, c3, c4, rfl, hi2, c5, c6, rfl, hi3, c7, c8, rfl, hr, rfl⟩ := h
  have hr0 := hr
  obtain ⟨d1, d2, rfl, he, d3, d4, rfl, _, d5, d6, rfl, hv, d7, d8, rfl, hs, d9, d10, rfl, hp, rfl⟩ := hr
  have h1 := act_bulk x
  have h2 := reply_bulk x.2.2.2.1
  have h3 := encReply_bulk x.2.2.2.1
  have h4 := bulks_len x.2.2.2.1.2.2.2.2.1.xs
  have e1 : (toA x).r = toR x.2.2.2.1 := rfl
  have e2 : (toR x.2.2.2.1).pairs.length = x.2.2.2.1.2.2.2.2.1.xs.length := by simp [toR]
  refine ⟨⟨fine_of hf, h0.2.2⟩, ⟨(err_range he).1, (err_range he).2, (int_range hs).1, (int_range hs).2, ?_, ?_⟩, ?_, int_range hi2, int_range hi3⟩
  · rw [e1]; omega
  · rw [e1, e2]; omega
  · rw [e1]; omega
theorem bulks_mem {α : Type} {f : α → Nat} {xs : List α} {x : α} (h : x ∈ xs) : f x ≤ bulks f xs := by
  induction xs with
  | nil => cases h
  | cons y ys ih =>
    simp only [bulks]
    rcases List.mem_cons.1 h with rfl | h
    · omega
    · have := ih h; omega
theorem sessionActs_walk (W : World) {a0 : Option Addr} {len0 cap0 : Nat} (x0 : SlV ActT) (rel0 : rdActs.rel W x0 (Value.slice a0 len0 cap0).cells.toList) (fit0 : rdActs.fits x0) {d0 : Nat} (bulk0 : rdActs.bulk x0 ≤ d0) (hsum : d0 ≤ 1048576) :
    Calls Try.prog 5 #[.slice a0 len0 cap0] W fun e w' => e = .returned (.bool true) ∧ Kp All W w' := by
  obtain ⟨k1, k2, k3, k4⟩ := rel0
  have k1' : [Value.slice a0 len0 cap0] = [.slice x0.A x0.xs.length x0.c] := k1
  simp only [List.cons.injEq, Value.slice.injEq, and_true] at k1'
  obtain ⟨rfl, rfl, rfl⟩ := k1'
  have hl : (x0.xs.map toA).length = x0.xs.length := by simp
  have := acts_true x0.A x0.c (x0.xs.map toA) W (by
      rw [hl]
      have hb : x0.xs.length * Try.prog.bytesOf 28 ≤ reachBytes := fit0.1
      have hp : 0 < Try.prog.bytesOf 28 := of_decide_eq_true (by kernel_rfl)
      have := Nat.le_mul_of_pos_right x0.xs.length hp
      have : reachBytes = 140737488351232 := by decide
      omega) (fun hn => by
      obtain ⟨b, o, e, he⟩ := k4 (by simpa using hn)
      exact ⟨b, o, e, fun u hu => acts_of (s := x0) (fun i x hx => by
        obtain ⟨cs, c1, c2⟩ := he i x hx
        exact ⟨cs, rdAct.keep _ _ _ _ c1 hu, fun j v hj => hu.cell (c2 j v hj) trivial⟩)⟩)
    (fun k hk => by
      have hk' : k < x0.xs.length := by simpa using hk
      have e : (x0.xs.map toA).getD k default = toA x0.xs[k] := by simp [List.getD, List.getElem?_eq_getElem hk']
      rw [e]
      obtain ⟨b, o, _, he⟩ := k4 (by omega)
      obtain ⟨cs, c1, _⟩ := he k _ (List.getElem?_eq_getElem hk')
      have hb : bulks rdAct.bulk x0.xs + 1 ≤ d0 := bulk0
      have hm : rdAct.bulk x0.xs[k] ≤ bulks rdAct.bulk x0.xs := bulks_mem (List.getElem_mem hk')
      exact act_ok c1 (fit0.2 _ (List.getElem_mem hk')) (by omega))
  rw [hl] at this
  exact this
namespace RowSessionActs
open Go.ChangeShapes Go.WideShapes Go.ChangeAt Go.RowKit
open Go.ChangeMaps (open_string shut_string)
set_option linter.unusedVariables false
theorem own : ownKnob Try.prog.godebug = none := by kernel_rfl
theorem laidOut : laidOutB Try.prog = true := by kernel_rfl
set_option maxRecDepth 100000 in
set_option maxHeartbeats 1000000 in
theorem lifted (os : Os) (started : os.Started) (H : Type) (enc : TypeId × Value → H) (F : Stop.Interp) :
    ReturnsInHanded {} Try.checked os 5 .any ((Rows.OpenSpec.upto Rows.sessionActsSpec).pre6 enc Try.prog Try.f5 Rows.sessionActsUptoRow.domain false) (((Rows.OpenSpec.upto Rows.sessionActsSpec).at F).post enc Try.prog Try.f5 false true false false) := by
  refine returnsInHanded_of_cond_sized (C := Try.checked) (s := Rows.OpenSpec.upto Rows.sessionActsSpec) (k := Rows.uptoSmall) rfl own started (by kernel_rfl) Try.func5
    (OpenSpec.witness (enc := enc) (C := Try.checked) (s := Rows.OpenSpec.upto Rows.sessionActsSpec) (k := Rows.uptoSmall) rfl false ⟨#[], #[.slice none 0 0], []⟩ 8 (by kernel_rfl) (by kernel_rfl) (by kernel_rfl) (x := ([.nil], [], [])) (by kernel_rfl) rfl (by kernel_rfl)) ?_
  intro W base args ds gs before hval0 hW hcnd hk0 hsz0 _
  have hsz : (DataW.weightsEach Try.prog (Try.f5.params.toList ++ Rows.sessionActsSpec.plain.varTypes Try.prog) (ds ++ gs)).all (· ≤ reachBytes) = true := hsz0
  have hval : ∀ (j : Nat) t v, Try.f5.params[j]? = some t → args[j]? = some v → Value.okWide Try.prog W .any base t v := hval0
  have hW' := hW
  obtain ⟨p, q, hA0, hV, rfl, hfz, hnd⟩ := hW
  have hA : DataW.TrodAll enc Try.prog W 0 (fun _ => true) true Try.f5.params.toList args.toList ds p := hA0
  rw [Try.params5] at hA hval hsz
  obtain ⟨v0, vs0, d0, ds0, p0, q0, hargs, rfl, rfl, h0, r0⟩ := trodAll_cons hA
  obtain ⟨rfl, rfl, rfl⟩ := trodAll_nil r0
  obtain rfl : args = #[v0] := by cases args; simp_all
  obtain ⟨rfl, rfl⟩ := trodVars_none hV
  have k0 := h0
  have lt0 : ∀ x ∈ p0, x.block < W.heap.size := by obtain ⟨m, hm⟩ := k0; exact DataW.trod_lt m _ _ _ hm
  have wt0 : (d0.weights Try.prog 22).all (· ≤ reachBytes) = true := List.all_eq_true.2 fun n hn => List.all_eq_true.1 hsz n (DataW.weights_mem_each (j := 0) (t := 22) rfl rfl n hn)
  obtain ⟨a0, len0, cap0, rfl⟩ := okWide_slice Try.underlying22 (hval 0 22 v0 rfl rfl)
  obtain ⟨x0, rel0, fit0, bulk0⟩ : ∃ x, rdActs.rel W x _ ∧ rdActs.fits x ∧ rdActs.bulk x ≤ Rows.uptoBulk d0 := by
    obtain ⟨m, hm⟩ := k0
    obtain ⟨x, x1, x2, x3⟩ := rdActs.opn hm
    exact ⟨x, x1, x2 wt0, x3⟩
  clear hA0 hval0 hsz0 hsz
  simp only [List.append_nil] at hk0
  have hsum0 : Rows.uptoBulkAll [d0] ≤ 1048576 := of_decide_eq_true hk0
  have hsum : Rows.uptoBulk d0 ≤ 1048576 := by simp only [Rows.uptoBulkAll] at hsum0; omega
  refine (sessionActs_walk W x0 rel0 fit0 bulk0 hsum).mono fun e W' ⟨he, hkp⟩ => ?_
  have bel := hkp.below
  subst he
  exact ⟨_, rfl, _, _, _, [], _, [], hW', trodAll_mk1 (shut_bool Try.underlying4 _), (trodAll_cons_mk (Below.trod laidOut (by kernel_rfl) (of_decide_eq_true (by kernel_rfl)) k0 bel lt0) trodAll_mk0), rfl, bel.frame _, fun h => by cases h⟩
theorem over : Rows.sessionActsUptoRow.holds Try.pinned (Rows.OpenSpec.upto Rows.sessionActsSpec) :=
  OpenClaim.holds_of_cond 5 Try.f5 rfl rfl rfl rfl rfl rfl rfl ⟨rfl, rfl, rfl, rfl, rfl⟩ rfl rfl rfl rfl rfl (by kernel_rfl) Try.func5 (by kernel_rfl)
    (of_decide_eq_true (by kernel_rfl)) (by unfold Func.isWrapper; first | (rw [if_pos (by decide +kernel)]; kernel_rfl) | (rw [if_neg (by decide +kernel)]; exact ⟨rfl, rfl⟩))
    (fun os started H enc _ F => lifted os started H enc F)
end RowSessionActs
/-- The row. -/
theorem sessionActs_holds : Rows.SessionActsUptoSaid := RowSessionActs.over
#print axioms sessionActs_holds
end Go.Proofs.Ytkipijdbkkcioaa
