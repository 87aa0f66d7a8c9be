/- SessionApart: for every input the law answers true and leaves its arguments as they were. No condition. -/
import Derived.Test.YtflnngpmkhpcgaaR0
import Derived.Test.YtflnngpmkhpcgaaE
namespace Go.Proofs.Ytflnngpmkhpcgaa
open Go.ChangeShapes Go.WideShapes Go.RowKit Go.Deep
set_option linter.unusedVariables false

noncomputable def rdInt : Rdr Try.prog 3 Int := .int Try.underlying3 (by kernel_rfl)
noncomputable def rdErr : Rdr Try.prog 23 Int := .int Try.underlying23 (by kernel_rfl)
noncomputable def rdBool : Rdr Try.prog 4 Bool := .bool Try.underlying4 (by kernel_rfl)
noncomputable def rdStr : Rdr Try.prog 9 ByteArray := .string Try.underlying9 (by kernel_rfl)
noncomputable def rdPair : Rdr Try.prog 67 (ByteArray × ByteArray × Unit) := .struct (.cons rdStr rfl (.cons rdStr rfl (.nil _))) Try.underlying67 (by kernel_rfl)
noncomputable def rdPairs : Rdr Try.prog 24 (SlV (ByteArray × ByteArray × Unit)) := rdPair.slice Try.underlying24 (by kernel_rfl) (by decide)
noncomputable def rdReply : Rdr Try.prog 26 (Int × Bool × ByteArray × Int × SlV (ByteArray × ByteArray × Unit) × Unit) := .struct (.cons rdErr rfl (.cons rdBool rfl (.cons rdStr rfl (.cons rdInt rfl (.cons rdPairs rfl (.nil _)))))) Try.underlying26 (by kernel_rfl)
noncomputable def rdAct : Rdr Try.prog 28 (Int × Int × Int × (Int × Bool × ByteArray × Int × SlV (ByteArray × ByteArray × Unit) × Unit) × Unit) := .struct (.cons rdInt rfl (.cons rdInt rfl (.cons rdInt rfl (.cons rdReply rfl (.nil _))))) Try.underlying28 (by kernel_rfl)
noncomputable def rdActs : Rdr Try.prog 22 (SlV (Int × Int × Int × (Int × Bool × ByteArray × Int × SlV (ByteArray × ByteArray × Unit) × Unit) × Unit)) := rdAct.slice Try.underlying22 (by kernel_rfl) (by decide)


abbrev PairT := ByteArray × ByteArray × Unit
abbrev ReplyT := Int × Bool × ByteArray × Int × SlV PairT × Unit
abbrev ActT := Int × Int × Int × ReplyT × Unit
def toR (x : ReplyT) : RD := ⟨x.1, x.2.1, x.2.2.1, x.2.2.2.1, x.2.2.2.2.1.xs.map fun p => (p.1, p.2.1)⟩
def toA (x : ActT) : AD := ⟨x.1, x.2.1, x.2.2.1, toR x.2.2.2.1, x.2.2.2.1.2.2.2.2.1.A, x.2.2.2.1.2.2.2.2.1.c⟩

theorem pcs_get {ps : List (ByteArray × ByteArray)} {j : Nat} {u : Value} (h : (pcs ps)[j]? = some u) : ∃ p, ps[j / 2]? = some p ∧ ((j % 2 = 0 ∧ u = .string p.1) ∨ (j % 2 = 1 ∧ u = .string p.2)) := by
  induction ps generalizing j with
  | nil => simp [pcs] at h
  | cons q ps ih =>
    match j, h with
    | 0, h => simp [pcs] at h; exact ⟨q, rfl, .inl ⟨rfl, h.symm⟩⟩
    | 1, h => simp [pcs] at h; exact ⟨q, rfl, .inr ⟨rfl, h.symm⟩⟩
    | j + 2, h =>
      obtain ⟨p, h1, h2⟩ := ih (j := j) (by simpa [pcs] using h)
      refine ⟨p, by rw [show (j + 2) / 2 = j / 2 + 1 from by omega]; simpa using h1, ?_⟩
      rw [show (j + 2) % 2 = j % 2 from by omega]
      exact h2

theorem ps_of {w : World} {s : SlV PairT} {cs : List Value} (h : rdPairs.rel w s cs) : cs = [.slice s.A s.xs.length s.c] ∧ Ps s.A s.c (s.xs.map fun p => (p.1, p.2.1)) w := by
  obtain ⟨h1, h2, h3, h4⟩ := h
  refine ⟨h1, ?_⟩
  refine ⟨by rw [pcs_len], by simpa using h2, fun hn => ?_⟩
  obtain ⟨b, o, e, he⟩ := h4 (by simpa using hn)
  refine ⟨b, o, e, fun j u hj => ?_⟩
  obtain ⟨p, hp, hu⟩ := pcs_get hj
  simp only [List.getElem?_map, Option.map_eq_some_iff] at hp
  obtain ⟨q, hq, rfl⟩ := hp
  obtain ⟨c, hc, hcell⟩ := he (j / 2) q hq
  obtain ⟨c1, c2, rfl, ⟨rfl, _⟩, c3, c4, rfl, ⟨rfl, _⟩, rfl⟩ := hc
  rcases hu with ⟨hm, rfl⟩ | ⟨hm, rfl⟩
  · have := hcell 0 _ rfl
    have e : o + j / 2 * rdPair.sz + 0 = o + j := by
      show o + j / 2 * 2 + 0 = o + j
      omega
    rwa [e] at this
  · have := hcell 1 _ rfl
    have e : o + j / 2 * rdPair.sz + 1 = o + j := by
      show o + j / 2 * 2 + 1 = o + j
      omega
    rwa [e] at this

theorem reply_of {w : World} {x : ReplyT} {cs : List Value} (h : rdReply.rel w x cs) : cs = [.int .i64 (toR x).err, .bool (toR x).found, .string (toR x).val, .int .i64 (toR x).sess, .slice x.2.2.2.2.1.A (toR x).pairs.length x.2.2.2.2.1.c] ∧ Ps x.2.2.2.2.1.A x.2.2.2.2.1.c (toR x).pairs w ∧ (toR x).val.size ≤ maxLen := by
  obtain ⟨c1, c2, rfl, ⟨rfl, _⟩, c3, c4, rfl, rfl, c5, c6, rfl, ⟨rfl, hv⟩, c7, c8, rfl, ⟨rfl, _⟩, c9, c10, rfl, hp, rfl⟩ := h
  obtain ⟨rfl, hp2⟩ := ps_of hp
  exact ⟨by simp [toR], hp2, hv⟩

theorem act_of {w : World} {x : ActT} {cs : List Value} (h : rdAct.rel w x cs) : cs = actCells (toA x) ∧ Ps (toA x).A (toA x).c (toA x).r.pairs w ∧ (toA x).r.val.size ≤ maxLen := by
  obtain ⟨c1, c2, rfl, ⟨rfl, _⟩, c3, c4, rfl, ⟨rfl, _⟩, c5, c6, rfl, ⟨rfl, _⟩, c7, c8, rfl, hr, rfl⟩ := h
  obtain ⟨rfl, hp, hv⟩ := reply_of hr
  exact ⟨rfl, hp, hv⟩

theorem fine_of {x : ActT} (h : rdAct.fits x) : small (toA x).r := by
  have h1 : x.2.2.2.1.2.2.2.2.1.xs.length * Try.prog.bytesOf 67 ≤ reachBytes := h.2.2.2.1.2.2.2.2.1.1
  have h2 : Try.prog.bytesOf 67 = 32 := by kernel_rfl
  rw [h2] at h1
  simp only [small, toA, toR, List.length_map]
  have : reachBytes = 140737488351232 := by decide
  omega

theorem acts_of {w : World} {s : SlV ActT} {b o : Nat} (h : Elems rdAct.rel rdAct.sz b o s.xs w) : Acts b o (s.xs.map toA) w := by
  have H : ∀ k, k < (s.xs.map toA).length → ∃ x cs, (s.xs.map toA).getD k default = toA x ∧ rdAct.rel w x cs ∧ ∀ j u, cs[j]? = some u → w.cell? ⟨b, o + k * 8 + j, none⟩ = some u := by
    intro k hk
    have hk' : k < s.xs.length := by simpa using hk
    obtain ⟨cs, h1, h2⟩ := h k _ (List.getElem?_eq_getElem hk')
    exact ⟨s.xs[k], cs, by simp [List.getD, List.getElem?_eq_getElem hk'], h1, h2⟩
  constructor
  · intro k j u hk hj
    obtain ⟨x, cs, e, h1, h2⟩ := H k hk
    rw [e] at hj
    obtain ⟨rfl, _⟩ := act_of h1
    exact h2 j u hj
  · intro k hk
    obtain ⟨x, cs, e, h1, h2⟩ := H k hk
    rw [e]
    exact (act_of h1).2.1
end Go.Proofs.Ytflnngpmkhpcgaa
namespace Go.Proofs.Ytflnngpmkhpcgaa
namespace RowSessionApart
open Go.ChangeShapes Go.WideShapes Go.ChangeAt Go.RowKit
open Go.ChangeMaps (open_string shut_string)
set_option linter.unusedVariables false
theorem own : ownKnob Try.prog.godebug = none := by kernel_rfl
theorem laidOut : laidOutB Try.prog = true := by kernel_rfl
theorem walk (W : World) {a : Option Addr} {len cap : Nat} (x0 : SlV ActT) (rel0 : rdActs.rel W x0 (Value.slice a len cap).cells.toList) (fit0 : rdActs.fits x0) {d0 : Nat} (bulk0 : rdActs.bulk x0 ≤ d0) {cs : Array Value} (x1 : ActT) (rel1 : rdAct.rel W x1 (Value.agg cs).cells.toList) (fit1 : rdAct.fits x1) {d1 : Nat} (bulk1 : rdAct.bulk x1 ≤ d1) :
    Calls Try.prog 3 #[.slice a len cap, .agg cs] W fun e w' => e = .returned (.bool true) ∧ Kp All W w' := by
  obtain ⟨h1, h2⟩ := act_of rel1
  obtain rfl : cs = (actCells (toA x1)).toArray := by
    have h1' : cs.toList = actCells (toA x1) := h1
    rw [← h1']
  obtain ⟨k1, k2, k3, k4⟩ := rel0
  have k1' : [Value.slice a len cap] = [.slice x0.A x0.xs.length x0.c] := k1
  simp only [List.cons.injEq, Value.slice.injEq, and_true] at k1'
  obtain ⟨rfl, rfl, rfl⟩ := k1'
  have hm : (⟨x0.A, x0.c, x0.xs⟩ : SlV ActT) = x0 := rfl
  have hx : Foot All (Ps (toA x1).A (toA x1).c (toA x1).r.pairs) W := fun u hu => (act_of (rdAct.keep _ _ _ _ rel1 hu)).2.1
  have hl : (x0.xs.map toA).length = x0.xs.length := by simp
  have := apart_true x0.A x0.c (x0.xs.map toA) (toA x1) W (by
      rw [hl]
      have hb : x0.xs.length * Try.prog.bytesOf 28 ≤ reachBytes := fit0.1
      have hp : 0 < Try.prog.bytesOf 28 := of_decide_eq_true (by kernel_rfl)
      have := Nat.le_mul_of_pos_right x0.xs.length hp
      have : reachBytes = 140737488351232 := by decide
      omega) (fun hn => by
      obtain ⟨b, o, e, he⟩ := k4 (by simpa using hn)
      exact ⟨b, o, e, fun u hu => acts_of (s := x0) (fun i x hx => by
        obtain ⟨cs, c1, c2⟩ := he i x hx
        exact ⟨cs, rdAct.keep _ _ _ _ c1 hu, fun j v hj => hu.cell (c2 j v hj) trivial⟩)⟩)
    (fun k hk => by
      have hk' : k < x0.xs.length := by simpa using hk
      have e : (x0.xs.map toA).getD k default = toA x0.xs[k] := by simp [List.getD, List.getElem?_eq_getElem hk']
      rw [e]
      obtain ⟨b, o, _, he⟩ := k4 (by omega)
      obtain ⟨cs, c1, _⟩ := he k _ (List.getElem?_eq_getElem hk')
      exact ⟨fine_of (fit0.2 _ (List.getElem_mem hk')), (act_of c1).2.2⟩)
    hx ⟨fine_of fit1, h2.2⟩
  rw [hl] at this
  exact this

set_option maxRecDepth 100000 in
set_option maxHeartbeats 1000000 in
theorem lifted (os : Os) (started : os.Started) (H : Type) (enc : TypeId × Value → H) :
    ReturnsInHanded {} Try.checked os 3 .any (Rows.sessionApartSpec.pre6 enc Try.prog Try.f3 Rows.sessionApartRow.domain false) (Rows.sessionApartSpec.post enc Try.prog Try.f3 false true false false) := by
  refine returnsInHanded_of_change_sized (C := Try.checked) own started (by kernel_rfl) Try.func3
    (ChangeSpec.witness6 (enc := enc) (C := Try.checked) false ⟨#[], #[.slice none 0 0, .agg #[.int .i64 0, .int .i64 0, .int .i64 0, .int .i64 0, .bool false, .string ByteArray.empty, .int .i64 0, .slice none 0 0]], []⟩ 8 (by kernel_rfl) (by kernel_rfl) (by kernel_rfl) (by kernel_rfl)) ?_
  intro W base args ds gs before hval0 hW hcnd hsz0 _
  have hsz : (DataW.weightsEach Try.prog (Try.f3.params.toList ++ Rows.sessionApartSpec.plain.varTypes Try.prog) (ds ++ gs)).all (· ≤ reachBytes) = true := hsz0
  have hval : ∀ (j : Nat) t v, Try.f3.params[j]? = some t → args[j]? = some v → Value.okWide Try.prog W .any base t v := hval0
  have hW' := hW
  obtain ⟨p, q, hA0, hV, rfl, hfz, hnd⟩ := hW
  have hA : DataW.TrodAll enc Try.prog W 0 (fun _ => true) true Try.f3.params.toList args.toList ds p := hA0
  rw [Try.params3] at hA hval hsz
  obtain ⟨v0, vs0, d0, ds0, p0, q0, hargs, rfl, rfl, h0, r0⟩ := trodAll_cons hA
  obtain ⟨v1, vs1, d1, ds1, p1, q1, rfl, rfl, rfl, h1, r1⟩ := trodAll_cons r0
  obtain ⟨rfl, rfl, rfl⟩ := trodAll_nil r1
  obtain rfl : args = #[v0, v1] := by cases args; simp_all
  obtain ⟨rfl, rfl⟩ := trodVars_none hV
  have k0 := h0
  have lt0 : ∀ x ∈ p0, x.block < W.heap.size := by obtain ⟨m, hm⟩ := k0; exact DataW.trod_lt m _ _ _ hm
  have wt0 : (d0.weights Try.prog 22).all (· ≤ reachBytes) = true := List.all_eq_true.2 fun n hn => List.all_eq_true.1 hsz n (DataW.weights_mem_each (j := 0) (t := 22) rfl rfl n hn)
  obtain ⟨a0, len0, cap0, rfl⟩ := okWide_slice Try.underlying22 (hval 0 22 v0 rfl rfl)
  obtain ⟨x0, rel0, fit0, bulk0⟩ : ∃ x, rdActs.rel W x _ ∧ rdActs.fits x ∧ rdActs.bulk x ≤ Rows.uptoBulk d0 := by
    obtain ⟨m, hm⟩ := k0
    obtain ⟨x, x1, x2, x3⟩ := rdActs.opn hm
    exact ⟨x, x1, x2 wt0, x3⟩
  have k1 := h1
  have lt1 : ∀ x ∈ p1, x.block < W.heap.size := by obtain ⟨m, hm⟩ := k1; exact DataW.trod_lt m _ _ _ hm
  have wt1 : (d1.weights Try.prog 28).all (· ≤ reachBytes) = true := List.all_eq_true.2 fun n hn => List.all_eq_true.1 hsz n (DataW.weights_mem_each (j := 1) (t := 28) rfl rfl n hn)
  obtain ⟨cs1, rfl, _⟩ := okWide_struct Try.underlying28 (hval 1 28 v1 rfl rfl)
  obtain ⟨x1, rel1, fit1, bulk1⟩ : ∃ x, rdAct.rel W x _ ∧ rdAct.fits x ∧ rdAct.bulk x ≤ Rows.uptoBulk d1 := by
    obtain ⟨m, hm⟩ := k1
    obtain ⟨x, x1, x2, x3⟩ := rdAct.opn hm
    exact ⟨x, x1, x2 wt1, x3⟩
  clear hA0 hval0 hsz0 hsz
  refine (walk W x0 rel0 fit0 bulk0 x1 rel1 fit1 bulk1).mono fun e W' ⟨he, hkp⟩ => ?_
  have bel := hkp.below
  subst he
  exact ⟨_, rfl, _, _, _, [], _, [], hW', trodAll_mk1 (shut_bool Try.underlying4 _), (trodAll_cons_mk (Below.trod laidOut (by kernel_rfl) (of_decide_eq_true (by kernel_rfl)) k0 bel lt0) (trodAll_cons_mk (Below.trod laidOut (by kernel_rfl) (of_decide_eq_true (by kernel_rfl)) k1 bel lt1) trodAll_mk0)), rfl, bel.frame _, fun h => by cases h⟩
theorem over : Rows.sessionApartRow.holds Try.pinned (OpenSpec.ofChange Rows.sessionApartSpec) :=
  OpenClaim.holds_of_wide 3 Try.f3 rfl rfl rfl rfl rfl rfl rfl ⟨rfl, rfl, rfl, rfl, rfl⟩ rfl rfl rfl rfl rfl (by kernel_rfl) Try.func3 (by kernel_rfl)
    (of_decide_eq_true (by kernel_rfl)) (by unfold Func.isWrapper; first | (rw [if_pos (by decide +kernel)]; kernel_rfl) | (rw [if_neg (by decide +kernel)]; exact ⟨rfl, rfl⟩))
    (fun os started H enc _ => lifted os started H enc)
end RowSessionApart
/-- The row. -/
theorem sessionApart_holds : Rows.SessionApartSaid := RowSessionApart.over
#print axioms sessionApart_holds
end Go.Proofs.Ytflnngpmkhpcgaa
