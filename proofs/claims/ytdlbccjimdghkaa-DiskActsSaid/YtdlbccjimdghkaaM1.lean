/- Plain: the program's disk and the document's alike. Plain: the program's disk and the document's stay alike. Plain: the document's disk stays good, by a budget. Plain: the document's disk stays good, by a budget: the operations. Plain: the document's disk stays good, by a budget: Rename and Spoil. Plain: the budget at Spoil, Arm, Start; the document's files stay in order. Plain: put keeps the order of names. Plain: the document's files stay in order, and their names good. The disk: a bit turned in place: what the memory is behind it. No condition but that the disk lies as Dk0 says. The disk: the turning of a bit (the closure of Spoil), walked once. No condition but where its boxes and the row lie. Lend and Kept: walked once each. No condition but where the bytes lie. -/
import Derived.Test.YtdlbccjimdghkaaHN
import Derived.Sort.Walk0
import Derived.StillTailTactics
import Derived.Laws.IdiomStrings
namespace Go.Proofs.Ytdlbccjimdghkaa
open Go.RowKit
set_option linter.unusedVariables false
set_option linter.unusedSimpArgs false
theorem insT_true {β : Type} (f : Nm × β) (V : List (Nm × β)) (K : List (Nm × β)) : V.foldl (insS f) (K, true) = (K ++ V, true) := by
  induction V generalizing K with
  | nil => simp
  | cons x V ih =>
    rw [List.foldl_cons, show insS f (K, true) x = (K ++ [x], true) from if_neg (fun h => by cases h.2), ih]
    simp
theorem insT_false {β : Type} (f : Nm × β) (V : List (Nm × β)) (K : List (Nm × β)) : ((V.foldl (insS f) (K, false)).2 = false ∧ (V.foldl (insS f) (K, false)).1 = K ++ V) ∨ ((V.foldl (insS f) (K, false)).2 = true ∧ (V.foldl (insS f) (K, false)).1.Perm (f :: (K ++ V))) := by
  induction V generalizing K with
  | nil => left; simp
  | cons x V ih =>
    rw [List.foldl_cons]
    by_cases h : gtN x.1 f.1 = true
    · rw [show insS f (K, false) x = (K ++ [f] ++ [x], true) from if_pos ⟨h, rfl⟩, insT_true]
      right
      refine ⟨rfl, ?_⟩
      rw [List.append_assoc, List.append_assoc]
      exact List.perm_middle
    · rw [show insS f (K, false) x = (K ++ [x], false) from if_neg (fun h' => h h'.1)]
      have := ih (K ++ [x])
      rw [List.append_assoc] at this
      exact this
theorem insG_perm {β : Type} (f : Nm × β) (V : List (Nm × β)) : (insG f V).Perm (f :: V) := by
  unfold insG insT
  rcases insT_false f V [] with ⟨h1, h2⟩ | ⟨h1, h2⟩
  · rw [h1, h2, if_neg (by simp)]
    exact List.perm_append_singleton _ _
  · rw [h1, if_pos rfl]; exact h2
/-- The two disks tell the same. -/
structure Ak (D R : DS) : Prop where
  f : D.F.Perm R.F
  b : D.B = R.B
  bl : D.blocks = R.blocks
  of : D.off = R.off
  op : D.ops = R.ops
  fa : D.fails = R.fails
  ke : D.keep = R.keep
theorem Ak.get {D R : DS} (h : Ak D R) (hn : (R.F.map (·.1)).Nodup) (n : Nm) : aget D.F n = aget R.F n := by
  have hn' : (D.F.map (·.1)).Nodup := (h.f.map _).nodup_iff.2 hn
  cases hd : aget D.F n with
  | some s => rw [aget_nd hn (h.f.mem_iff.1 (aget_mem hd))]
  | none =>
    cases hr : aget R.F n with
    | none => rfl
    | some s =>
      rw [aget_nd hn' (h.f.mem_iff.2 (aget_mem hr))] at hd
      cases hd
theorem Ak.used {D R : DS} (h : Ak D R) : usedOf D.F D.B = usedOf R.F R.B := by
  rw [h.b, usedOf, usedOf]
  exact (h.f.map _).sum_nat
theorem addTo_perm {F G : List (Nm × By)} (h : F.Perm G) (n : Nm) (b : By) : (addTo F n b).Perm (addTo G n b) := h.map _
theorem settle_perm : ∀ (B F G : List (Nm × By)) (n : Nat), F.Perm G → (settleF F B n).Perm (settleF G B n)
  | [], F, G, n, h => by rw [settleF, settleF]; exact h
  | x :: B, F, G, n, h => by rw [settleF, settleF]; exact settle_perm B _ _ _ (addTo_perm h _ _)
theorem Ak.settle {D R : DS} (h : Ak D R) (n : Nat) : Ak (D.settle n) (R.settle n) := ⟨by
  show (settleF D.F D.B n).Perm (settleF R.F R.B n)
  rw [h.b]; exact settle_perm _ _ _ _ h.f, rfl, h.bl, h.of, h.op, h.fa, h.ke⟩
theorem Ak.crash {D R : DS} (h : Ak D R) (k : Int) : Ak (D.crash k) (R.crash k) := by
  have h1 := h.settle k.toNat
  exact ⟨h1.f, h1.b, h1.bl, rfl, h1.op, h1.fa, h1.ke⟩
theorem Ak.fit {D R : DS} (h : Ak D R) : D.fit = R.fit := by rw [DS.fit, DS.fit, h.fa]
theorem Ak.begun {D R : DS} (h : Ak D R) : Ak D.begun R.begun := by
  obtain ⟨dbl, dof, dop, dfa, dke, dF, dB⟩ := D
  obtain ⟨rbl, rof, rop, rfa, rke, rF, rB⟩ := R
  obtain ⟨hf, hb, h1, h2, h3, h4, h5⟩ := h
  dsimp only at hf hb h1 h2 h3 h4 h5
  subst hb h1 h2 h3 h4 h5
  unfold DS.begun
  dsimp only
  split
  · exact ⟨hf, rfl, rfl, rfl, rfl, rfl, rfl⟩
  · split
    · refine Ak.crash ?_ _
      exact ⟨hf, rfl, rfl, rfl, rfl, rfl, rfl⟩
    · exact ⟨hf, rfl, rfl, rfl, rfl, rfl, rfl⟩
theorem Ak.gone {D R : DS} (h : Ak D R) (n : Nm) : Ak (D.gone n) (R.gone n) := ⟨h.f.filter _, by show adel D.B n = adel R.B n; rw [h.b], h.bl, h.of, h.op, h.fa, h.ke⟩
theorem Ak.put {D R : DS} (h : Ak D R) (n : Nm) : Ak (D.add n) (qput R n []) := ⟨by
  show (D.F ++ [(n, [])]).Perm (insG (n, []) R.F)
  exact ((List.perm_append_singleton _ _).trans (h.f.cons _)).trans (insG_perm _ _).symm, h.b, h.bl, h.of, h.op, h.fa, h.ke⟩
theorem Ak.creErr {D R : DS} (h : Ak D R) (hn : (R.F.map (·.1)).Nodup) (n : Nm) : creErr D n = creErr R n := by
  unfold Go.Proofs.Ytdlbccjimdghkaa.creErr creErr1 createErr1
  rw [h.of, h.fit, h.get hn, h.bl, h.used]
theorem Ak.appErr {D R : DS} (h : Ak D R) (hn : (R.F.map (·.1)).Nodup) (n : Nm) (b : By) : appErr D n b = appErr R n b := by
  unfold Go.Proofs.Ytdlbccjimdghkaa.appErr grow
  rw [h.of, h.fit, h.get hn, h.bl, h.used, h.b]
theorem Ak.remErr {D R : DS} (h : Ak D R) (hn : (R.F.map (·.1)).Nodup) (n : Nm) : remErr D n = remErr R n := by
  unfold Go.Proofs.Ytdlbccjimdghkaa.remErr
  rw [h.of, h.fit, h.get hn]
theorem Ak.renErr {D R : DS} (h : Ak D R) (hn : (R.F.map (·.1)).Nodup) (a b : Nm) : renErr D a b = renErr R a b := by
  unfold Go.Proofs.Ytdlbccjimdghkaa.renErr
  rw [h.of, h.fit, h.get hn]
theorem Ak.syncErr {D R : DS} (h : Ak D R) : syncErr D = syncErr R := by
  unfold Go.Proofs.Ytdlbccjimdghkaa.syncErr
  rw [h.of, h.fit]
theorem Ak.read {D R : DS} (h : Ak D R) (hn : (R.F.map (·.1)).Nodup) (n : Nm) : readErr D n = readErr R n ∧ readB D n = readB R n := by
  unfold readErr readB
  rw [h.of, h.get hn, h.b]; exact ⟨rfl, rfl⟩
theorem Ak.spoErr {D R : DS} (h : Ak D R) (hn : (R.F.map (·.1)).Nodup) (n : Nm) (i bit : Int) : spoErr D n i bit = spoErr R n i bit := by
  unfold Go.Proofs.Ytdlbccjimdghkaa.spoErr
  rw [h.of, h.get hn]
  cases aget R.F n with
  | none => rfl
  | some s =>
    have : spoOut D n s i bit ↔ spoOut R n s i bit := by unfold spoOut; rw [h.b]
    simp only [this]
end Go.Proofs.Ytdlbccjimdghkaa

namespace Go.Proofs.Ytdlbccjimdghkaa
open Go.RowKit
set_option linter.unusedVariables false
set_option linter.unusedSimpArgs false
theorem Ak.keys {D R : DS} (h : Ak D R) (hn : (R.F.map (·.1)).Nodup) : (D.F.map (·.1)).Nodup := (h.f.map _).nodup_iff.2 hn
theorem settle_nd {F B : List (Nm × By)} {n : Nat} (h : (F.map (·.1)).Nodup) : ((settleF F B n).map (·.1)).Nodup := by rw [settleF_keys]; exact h
theorem begun_nd {R : DS} (h : (R.F.map (·.1)).Nodup) : (R.begun.F.map (·.1)).Nodup := by
  unfold DS.begun
  split
  · exact h
  · split
    · exact settle_nd h
    · exact h
theorem Ak.creD {D R : DS} (h : Ak D R) (hn : (R.F.map (·.1)).Nodup) (n : Nm) : Ak (creD D n) (qcreD R n) := by
  unfold Go.Proofs.Ytdlbccjimdghkaa.creD qcreD
  rw [h.of, h.fit]
  have hb := h.begun
  split
  · exact h
  · split
    · split
      · unfold creD1 qcreD1 createD1
        rw [hb.get (begun_nd hn), hb.bl, hb.used]
        cases aget R.begun.F n with
        | some s => exact (hb.gone n).put n
        | none =>
          dsimp only
          split
          · exact hb
          · exact hb.put n
      · exact hb
    · exact h
theorem Ak.push {D R : DS} (h : Ak D R) (n : Nm) (b : By) : Ak (D.push n b) (R.push n b) := ⟨h.f, by show D.B ++ [(n, b)] = R.B ++ [(n, b)]; rw [h.b], h.bl, h.of, h.op, h.fa, h.ke⟩
theorem Ak.appD {D R : DS} (h : Ak D R) (hn : (R.F.map (·.1)).Nodup) (n : Nm) (b : By) : Ak (appD D n b) (appD R n b) := by
  unfold Go.Proofs.Ytdlbccjimdghkaa.appD grow
  rw [h.of, h.fit, h.get hn, h.bl, h.used, h.b]
  split
  · exact h
  · cases aget R.F n with
    | none => exact h
    | some s =>
      dsimp only
      split
      · split
        · exact h.begun
        · exact h.begun.push n b
      · exact h.begun
theorem Ak.syncD {D R : DS} (h : Ak D R) : Ak (syncD D) (syncD R) := by
  unfold Go.Proofs.Ytdlbccjimdghkaa.syncD
  rw [h.of, h.fit, h.b]
  split
  · exact h
  · split
    · exact h.begun.settle _
    · exact h.begun
theorem Ak.remD {D R : DS} (h : Ak D R) (hn : (R.F.map (·.1)).Nodup) (n : Nm) : Ak (remD D n) (remD R n) := by
  unfold Go.Proofs.Ytdlbccjimdghkaa.remD
  rw [h.of, h.fit, h.get hn]
  split
  · exact h
  · cases aget R.F n with
    | none => exact h
    | some s =>
      dsimp only
      split
      · exact h.begun.gone n
      · exact h.begun
theorem Ak.ren1D {D R : DS} (h : Ak D R) (a b : Nm) (s : By) : Ak (ren1D D a b s) (qren1 R a b s) := by
  unfold Go.Proofs.Ytdlbccjimdghkaa.ren1D qren1
  split
  · exact h
  · have hg := h.gone b
    refine ⟨?_, ?_, h.bl, h.of, h.op, h.fa, h.ke⟩
    · show (adel (adel D.F b) a ++ [(b, s)]).Perm (insG (b, s) (adel (adel R.F b) a))
      exact ((List.perm_append_singleton _ _).trans (((h.f.filter _).filter _).cons _)).trans (insG_perm _ _).symm
    · show renB (adel D.B b) a b = renB (adel R.B b) a b
      rw [h.b]
theorem Ak.renD {D R : DS} (h : Ak D R) (hn : (R.F.map (·.1)).Nodup) (a b : Nm) : Ak (renD D a b) (qrenD R a b) := by
  unfold Go.Proofs.Ytdlbccjimdghkaa.renD qrenD
  rw [h.of, h.fit, h.get hn]
  split
  · exact h
  · split
    · cases aget R.F a with
      | none => exact h
      | some s =>
        dsimp only
        split
        · exact h.begun.ren1D a b s
        · exact h.begun
    · exact h
theorem Ak.spoD {D R : DS} (h : Ak D R) (hn : (R.F.map (·.1)).Nodup) (n : Nm) (i bit : Int) : Ak (spoD D n i bit) (spoD R n i bit) := by
  unfold Go.Proofs.Ytdlbccjimdghkaa.spoD
  rw [h.of, h.get hn]
  split
  · exact h
  · cases aget R.F n with
    | none => exact h
    | some s =>
      have : spoOut D n s i bit ↔ spoOut R n s i bit := by unfold spoOut; rw [h.b]
      simp only [this]
      split
      · exact h
      · split
        · exact ⟨h.f.map _, h.b, h.bl, rfl, h.op, h.fa, h.ke⟩
        · exact ⟨h.f, by show flipB n _ D.B _ = flipB n _ R.B _; rw [h.b], h.bl, rfl, h.op, h.fa, h.ke⟩
end Go.Proofs.Ytdlbccjimdghkaa

namespace Go.Proofs.Ytdlbccjimdghkaa
open Go.RowKit
set_option linter.unusedVariables false
set_option linter.unusedSimpArgs false
def sumF (F : List (Nm × By)) : Nat := (F.map fun x => x.2.length).sum
structure Bg (R : DS) (N : Nat) : Prop where
  nf : R.F.length ≤ N
  nb : R.B.length ≤ N
  sz : sumF R.F + pend R.B ≤ N
  nd : (R.F.map (·.1)).Nodup
  nm : ∀ x ∈ R.B, x.1 ∈ R.F.map (·.1)
  o0 : 0 ≤ R.ops
  o1 : R.ops ≤ (N : Int)
  f1 : R.fails ≤ 9223372036854775807
  k1 : R.keep ≤ 9223372036854775807
theorem le_sumF {F : List (Nm × By)} {x : Nm × By} (h : x ∈ F) : x.2.length ≤ sumF F := by
  induction F with
  | nil => cases h
  | cons y F ih =>
    simp only [sumF, List.map_cons, List.sum_cons] at ih ⊢
    rcases List.mem_cons.1 h with rfl | h
    · omega
    · have := ih h; omega
theorem Bg.go {R : DS} {N : Nat} (h : Bg R N) (hN : N ≤ 1000000) : GO R where
  f := Nat.le_trans h.nf hN
  b := Nat.le_trans h.nb hN
  s := fun x hx => by have := le_sumF hx; have := h.sz; omega
  nd := h.nd
  nm := h.nm
  o0 := h.o0
  o1 := by have := h.o1; omega
  f1 := h.f1
  k1 := h.k1
theorem Bg.mono {R : DS} {N M : Nat} (h : Bg R N) (hm : N ≤ M) : Bg R M := ⟨Nat.le_trans h.nf hm, Nat.le_trans h.nb hm, Nat.le_trans h.sz hm, h.nd, h.nm, h.o0, by have := h.o1; omega, h.f1, h.k1⟩
theorem sumF_filter (F : List (Nm × By)) (q : Nm × By → Bool) : sumF (F.filter q) ≤ sumF F := by
  induction F with
  | nil => simp
  | cons x F ih =>
    simp only [sumF] at ih ⊢
    by_cases e : q x = true
    · rw [List.filter_cons_of_pos e]; simp only [List.map_cons, List.sum_cons]; omega
    · rw [List.filter_cons_of_neg e]; simp only [List.map_cons, List.sum_cons]; omega
theorem Bg.gone {R : DS} {N : Nat} (h : Bg R N) (n : Nm) : Bg (R.gone n) N := by
  have hF : (adel R.F n).length ≤ R.F.length := List.length_filter_le _ _
  have hB : (adel R.B n).length ≤ R.B.length := List.length_filter_le _ _
  have h1 : sumF (adel R.F n) ≤ sumF R.F := sumF_filter _ _
  have h2 : pend (adel R.B n) ≤ pend R.B := sumF_filter R.B _
  refine ⟨Nat.le_trans hF h.nf, Nat.le_trans hB h.nb, by show sumF (adel R.F n) + pend (adel R.B n) ≤ N; have := h.sz; omega, (List.filter_sublist.map _).nodup h.nd, fun x hx => ?_, h.o0, h.o1, h.f1, h.k1⟩
  have h5 := h.nm x (mem_adel hx)
  have h6 : x.1 ≠ n := by simpa using (List.mem_filter.1 hx).2
  obtain ⟨y, hy, e⟩ := List.mem_map.1 h5
  exact List.mem_map.2 ⟨y, List.mem_filter.2 ⟨hy, by simp [e, h6]⟩, e⟩
theorem sumF_addTo (F : List (Nm × By)) (n : Nm) (b : By) (hn : (F.map (·.1)).Nodup) : sumF (addTo F n b) ≤ sumF F + b.length := by
  induction F with
  | nil => simp [addTo, sumF]
  | cons x F ih =>
    simp only [List.map_cons, List.nodup_cons] at hn
    have ih := ih hn.2
    simp only [addTo, sumF, List.map_cons, List.sum_cons] at ih ⊢
    by_cases e : x.1 = n
    · rw [if_pos e]
      have h0 : (F.map fun y => if y.1 = n then (y.1, y.2 ++ b) else y) = F := by
        rw [List.map_congr_left (g := id), List.map_id]
        intro u hu
        rw [if_neg (fun e2 : u.1 = n => hn.1 (by rw [e, ← e2]; exact List.mem_map.2 ⟨u, hu, rfl⟩))]; rfl
      rw [h0, List.length_append]; omega
    · rw [if_neg e]; omega
theorem sumF_settle : ∀ (B F : List (Nm × By)) (n : Nat), (F.map (·.1)).Nodup → sumF (settleF F B n) ≤ sumF F + pend B
  | [], F, n, h => by rw [settleF]; omega
  | x :: B, F, n, h => by
    rw [settleF]
    have h1 := sumF_settle B (addTo F x.1 (x.2.take n)) (n - x.2.length) (by rw [addTo_keys]; exact h)
    have h2 := sumF_addTo F x.1 (x.2.take n) h
    rw [List.length_take] at h2
    have h3 : n - min x.2.length n = n - x.2.length := by omega
    have e : pend (x :: B) = x.2.length + pend B := by simp [pend]
    rw [e]
    first | omega | (rw [h3]; omega)
theorem Bg.settle {R : DS} {N : Nat} (h : Bg R N) (n : Nat) : Bg (R.settle n) N := by
  have hl : (settleF R.F R.B n).length = R.F.length := by
    have := congrArg List.length (settleF_keys R.B R.F n)
    simpa using this
  refine ⟨by show (settleF R.F R.B n).length ≤ N; rw [hl]; exact h.nf, Nat.zero_le _, ?_, settle_nd h.nd, (fun x hx => by cases hx), h.o0, h.o1, h.f1, h.k1⟩
  show sumF (settleF R.F R.B n) + pend [] ≤ N
  have := sumF_settle R.B R.F n h.nd
  have := h.sz
  simp only [pend, List.map_nil, List.sum_nil] at *
  omega
theorem Bg.crash {R : DS} {N : Nat} (h : Bg R N) (k : Int) : Bg (R.crash k) N := by
  have h1 := h.settle k.toNat
  exact ⟨h1.nf, h1.nb, h1.sz, h1.nd, h1.nm, h1.o0, h1.o1, h1.f1, h1.k1⟩
theorem Bg.begun {R : DS} {N : Nat} (h : Bg R N) : Bg R.begun (N + 1) := by
  have h0 := h.o0; have h1 := h.o1; have hf := h.f1
  unfold DS.begun
  split
  · exact ⟨Nat.le_succ_of_le h.nf, Nat.le_succ_of_le h.nb, Nat.le_succ_of_le h.sz, h.nd, h.nm, by show 0 ≤ R.ops + 1; omega, by show R.ops + 1 ≤ _; omega, h.f1, h.k1⟩
  · split
    · refine Bg.crash ?_ _
      exact ⟨Nat.le_succ_of_le h.nf, Nat.le_succ_of_le h.nb, Nat.le_succ_of_le h.sz, h.nd, h.nm, by show 0 ≤ R.ops + 1; omega, by show R.ops + 1 ≤ _; omega, by show (0 : Int) ≤ _; omega, h.k1⟩
    · exact ⟨Nat.le_succ_of_le h.nf, Nat.le_succ_of_le h.nb, Nat.le_succ_of_le h.sz, h.nd, h.nm, by show 0 ≤ R.ops + 1; omega, by show R.ops + 1 ≤ _; omega, by show R.fails - 1 ≤ _; omega, h.k1⟩
end Go.Proofs.Ytdlbccjimdghkaa

namespace Go.Proofs.Ytdlbccjimdghkaa
open Go.RowKit
set_option linter.unusedVariables false
set_option linter.unusedSimpArgs false
theorem Bg.put {R : DS} {N : Nat} (h : Bg R N) {n : Nm} (hn : n ∉ R.F.map (·.1)) : Bg (qput R n []) (N + 1) := by
  have hp : (insG (n, []) R.F).Perm ((n, []) :: R.F) := insG_perm _ _
  have hl : (insG (n, []) R.F).length = R.F.length + 1 := by rw [hp.length_eq]; rfl
  have hs : sumF (insG (n, []) R.F) = sumF R.F := by
    unfold sumF; rw [(hp.map _).sum_nat]; simp
  have hk : ((insG (n, []) R.F).map (·.1)).Perm (n :: R.F.map (·.1)) := hp.map _
  refine ⟨by show (insG (n, []) R.F).length ≤ _; rw [hl]; have := h.nf; omega, Nat.le_succ_of_le h.nb, by show sumF (insG (n, []) R.F) + pend R.B ≤ _; rw [hs]; have := h.sz; omega, ?_, fun x hx => ?_, h.o0, by have := h.o1; show R.ops ≤ _; omega, h.f1, h.k1⟩
  · exact hk.nodup_iff.2 (List.nodup_cons.2 ⟨hn, h.nd⟩)
  · exact hk.mem_iff.2 (List.mem_cons_of_mem _ (h.nm x hx))
theorem gone_not {R : DS} {n : Nm} : n ∉ (R.gone n).F.map (·.1) := by
  intro h
  obtain ⟨x, hx, e⟩ := List.mem_map.1 h
  have := (List.mem_filter.1 hx).2
  simp [e] at this
theorem Bg.creD {R : DS} {N : Nat} (h : Bg R N) (n : Nm) : Bg (qcreD R n) (N + 2) := by
  unfold qcreD
  have hb := h.begun
  split
  · exact h.mono (by omega)
  · split
    · split
      · unfold qcreD1
        cases hg : aget R.begun.F n with
        | some s => exact (hb.gone n).put gone_not
        | none =>
          dsimp only
          split
          · exact hb.mono (by omega)
          · exact hb.put (aget_none hg)
      · exact hb.mono (by omega)
    · exact h.mono (by omega)
theorem Bg.push {R : DS} {N : Nat} (h : Bg R N) {n : Nm} (hn : n ∈ R.F.map (·.1)) (b : By) : Bg (R.push n b) (N + 1 + b.length) := by
  refine ⟨by have := h.nf; show R.F.length ≤ _; omega, by have := h.nb; show (R.B ++ [(n, b)]).length ≤ _; rw [List.length_append]; simp only [List.length_cons, List.length_nil]; omega, ?_, h.nd, fun x hx => ?_, h.o0, by have := h.o1; show R.ops ≤ _; omega, h.f1, h.k1⟩
  · show sumF R.F + pend (R.B ++ [(n, b)]) ≤ _
    have := h.sz
    simp only [pend, List.map_append, List.map_cons, List.map_nil, List.sum_append, List.sum_cons, List.sum_nil] at this ⊢
    omega
  · rcases List.mem_append.1 hx with hx | hx
    · exact h.nm x hx
    · rw [List.mem_singleton.1 hx]; exact hn
theorem Bg.appD {R : DS} {N : Nat} (h : Bg R N) (n : Nm) (b : By) : Bg (appD R n b) (N + 2 + b.length) := by
  unfold Go.Proofs.Ytdlbccjimdghkaa.appD
  have hb := h.begun
  split
  · exact h.mono (by omega)
  · cases hg : aget R.F n with
    | none => exact h.mono (by omega)
    | some s =>
      dsimp only
      split
      · next hf =>
        split
        · exact hb.mono (by omega)
        · refine hb.push ?_ b
          rw [(begun_fit hf).1]
          exact List.mem_map.2 ⟨_, aget_mem hg, rfl⟩
      · exact hb.mono (by omega)
theorem Bg.syncD {R : DS} {N : Nat} (h : Bg R N) : Bg (syncD R) (N + 1) := by
  unfold Go.Proofs.Ytdlbccjimdghkaa.syncD
  have hb := h.begun
  split
  · exact h.mono (by omega)
  · split
    · exact hb.settle _
    · exact hb
theorem Bg.remD {R : DS} {N : Nat} (h : Bg R N) (n : Nm) : Bg (remD R n) (N + 1) := by
  unfold Go.Proofs.Ytdlbccjimdghkaa.remD
  have hb := h.begun
  split
  · exact h.mono (by omega)
  · cases aget R.F n with
    | none => exact h.mono (by omega)
    | some s =>
      dsimp only
      split
      · exact hb.gone n
      · exact hb
end Go.Proofs.Ytdlbccjimdghkaa

namespace Go.Proofs.Ytdlbccjimdghkaa
open Go.RowKit
set_option linter.unusedVariables false
set_option linter.unusedSimpArgs false
theorem sumF_adel {F : List (Nm × By)} {n : Nm} {s : By} (h : (n, s) ∈ F) : sumF (adel F n) + s.length ≤ sumF F := by
  induction F with
  | nil => cases h
  | cons x F ih =>
    have hf := sumF_filter F (fun y => decide (y.1 ≠ n))
    simp only [sumF, adel, List.map_cons, List.sum_cons] at ih hf ⊢
    by_cases e : x.1 = n
    · rw [List.filter_cons_of_neg (by simp [e])]
      rcases List.mem_cons.1 h with rfl | h
      · dsimp only at hf ⊢; omega
      · have := ih h; omega
    · rw [List.filter_cons_of_pos (by simpa using e)]
      rcases List.mem_cons.1 h with rfl | h
      · exact absurd rfl e
      · have := ih h
        simp only [List.map_cons, List.sum_cons]; omega
theorem Bg.ren1 {R : DS} {N : Nat} (h : Bg R N) {a b : Nm} {s : By} (ha : (a, s) ∈ R.F) : Bg (qren1 R a b s) (N + 1) := by
  unfold qren1
  split
  · exact h.mono (by omega)
  · next hab =>
    have hg := h.gone b
    have ha' : (a, s) ∈ adel R.F b := List.mem_filter.2 ⟨ha, by simp [hab]⟩
    have hs := sumF_adel ha'
    have hp : (insG (b, s) (adel (adel R.F b) a)).Perm ((b, s) :: adel (adel R.F b) a) := insG_perm _ _
    have hk : ((insG (b, s) (adel (adel R.F b) a)).map (·.1)).Perm (b :: (adel (adel R.F b) a).map (·.1)) := hp.map _
    have hl2 : (adel (adel R.F b) a).length ≤ (adel R.F b).length := List.length_filter_le _ _
    have hsum : sumF (insG (b, s) (adel (adel R.F b) a)) = s.length + sumF (adel (adel R.F b) a) := by
      unfold sumF; rw [(hp.map _).sum_nat]; simp
    have hpr : pend (renB (adel R.B b) a b) = pend (adel R.B b) := by
      unfold pend renB
      rw [List.map_map]
      congr 1
      apply List.map_congr_left
      intro x _
      simp only [Function.comp_def]
      split <;> rfl
    refine ⟨?_, ?_, ?_, ?_, fun x hx => ?_, h.o0, by have := h.o1; show R.ops ≤ _; omega, h.f1, h.k1⟩
    · show (insG (b, s) (adel (adel R.F b) a)).length ≤ _
      rw [hp.length_eq]
      have : (adel R.F b).length ≤ N := hg.nf
      simp only [List.length_cons]; omega
    · show (renB (adel R.B b) a b).length ≤ _
      have : (adel R.B b).length ≤ N := hg.nb
      rw [renB, List.length_map]; omega
    · show sumF (insG (b, s) (adel (adel R.F b) a)) + pend (renB (adel R.B b) a b) ≤ _
      have h3 : sumF (adel R.F b) + pend (adel R.B b) ≤ N := hg.sz
      rw [hsum, hpr]; omega
    · refine hk.nodup_iff.2 (List.nodup_cons.2 ⟨?_, (List.filter_sublist.map _).nodup hg.nd⟩)
      intro hb
      obtain ⟨x, hx, e⟩ := List.mem_map.1 hb
      have := (List.mem_filter.1 (mem_adel hx)).2
      simp [e] at this
    · refine hk.mem_iff.2 ?_
      obtain ⟨y, hy, rfl⟩ := List.mem_map.1 hx
      have hm : y.1 ∈ (adel R.F b).map (·.1) := hg.nm y hy
      by_cases e : y.1 = a
      · rw [if_pos e]; exact List.mem_cons_self ..
      · rw [if_neg e]
        refine List.mem_cons_of_mem _ ?_
        obtain ⟨u, hu, e2⟩ := List.mem_map.1 hm
        exact List.mem_map.2 ⟨u, List.mem_filter.2 ⟨hu, by simp [e2, e]⟩, e2⟩
theorem Bg.renD {R : DS} {N : Nat} (h : Bg R N) (a b : Nm) : Bg (qrenD R a b) (N + 2) := by
  unfold qrenD
  have hb := h.begun
  split
  · exact h.mono (by omega)
  · split
    · cases hg : aget R.F a with
      | none => exact h.mono (by omega)
      | some s =>
        dsimp only
        split
        · next hf => exact hb.ren1 (by rw [(begun_fit hf).1]; exact aget_mem hg)
        · exact hb.mono (by omega)
    · exact h.mono (by omega)
end Go.Proofs.Ytdlbccjimdghkaa

namespace Go.Proofs.Ytdlbccjimdghkaa
open Go.RowKit
set_option linter.unusedVariables false
set_option linter.unusedSimpArgs false
theorem flipF_keys (F : List (Nm × By)) (n : Nm) (i bit : Nat) : (flipF F n i bit).map (·.1) = F.map (·.1) := by
  rw [flipF, List.map_map]
  apply List.map_congr_left
  intro x _
  simp only [Function.comp_def]
  split <;> rfl
theorem flipF_sum (F : List (Nm × By)) (n : Nm) (i bit : Nat) : sumF (flipF F n i bit) = sumF F := by
  unfold sumF flipF
  rw [List.map_map]
  congr 1
  apply List.map_congr_left
  intro x _
  simp only [Function.comp_def]
  split
  · exact flip_len _ _ _
  · rfl
theorem flipB_both (n : Nm) (bit : Nat) : ∀ (B : List (Nm × By)) (i : Nat), (flipB n bit B i).map (fun x => (x.1, x.2.length)) = B.map (fun x => (x.1, x.2.length))
  | [], i => rfl
  | (m, b) :: B, i => by
    rw [flipB]
    split
    · split
      · simp [flip_len]
      · simp [flipB_both n bit B]
    · simp [flipB_both n bit B]
theorem flipB_keys (n : Nm) (bit : Nat) (B : List (Nm × By)) (i : Nat) : (flipB n bit B i).map (·.1) = B.map (·.1) := by
  have h := congrArg (List.map (·.1)) (flipB_both n bit B i)
  simpa [List.map_map, Function.comp_def] using h
theorem flipB_pend (n : Nm) (bit : Nat) (B : List (Nm × By)) (i : Nat) : pend (flipB n bit B i) = pend B := by
  have h := congrArg (fun l => (l.map (·.2)).sum) (flipB_both n bit B i)
  simpa [pend, List.map_map, Function.comp_def] using h
theorem Bg.spoD {R : DS} {N : Nat} (h : Bg R N) (n : Nm) (i bit : Int) : Bg (spoD R n i bit) N := by
  unfold Go.Proofs.Ytdlbccjimdghkaa.spoD
  split
  · exact h
  · cases aget R.F n with
    | none => exact h
    | some s =>
      dsimp only
      split
      · exact h
      · split
        · refine ⟨?_, h.nb, ?_, ?_, fun x hx => ?_, h.o0, h.o1, h.f1, h.k1⟩
          · show (flipF R.F n i.toNat bit.toNat).length ≤ N
            rw [flipF, List.length_map]; exact h.nf
          · show sumF (flipF R.F n i.toNat bit.toNat) + pend R.B ≤ N
            rw [flipF_sum]; exact h.sz
          · show ((flipF R.F n i.toNat bit.toNat).map (·.1)).Nodup
            rw [flipF_keys]; exact h.nd
          · show x.1 ∈ (flipF R.F n i.toNat bit.toNat).map (·.1)
            rw [flipF_keys]; exact h.nm x hx
        · have hk := flipB_keys n bit.toNat R.B (i.toNat - s.length)
          refine ⟨h.nf, ?_, ?_, h.nd, fun x hx => ?_, h.o0, h.o1, h.f1, h.k1⟩
          · show (flipB n bit.toNat R.B (i.toNat - s.length)).length ≤ N
            have := congrArg List.length hk
            simp only [List.length_map] at this
            rw [this]; exact h.nb
          · show sumF R.F + pend (flipB n bit.toNat R.B (i.toNat - s.length)) ≤ N
            rw [flipB_pend]; exact h.sz
          · have hx' : x.1 ∈ (flipB n bit.toNat R.B (i.toNat - s.length)).map (·.1) := List.mem_map.2 ⟨x, hx, rfl⟩
            rw [hk] at hx'
            obtain ⟨y, hy, e⟩ := List.mem_map.1 hx'
            show x.1 ∈ R.F.map (·.1)
            rw [← e]; exact h.nm y hy
theorem Bg.arm {R : DS} {N : Nat} (h : Bg R N) (n k : Int) (hn : n ≤ 9223372036854775807) (hk : k ≤ 9223372036854775807) : Bg (armD R n k) N := by
  unfold armD
  split
  · exact h
  · exact ⟨h.nf, h.nb, h.sz, h.nd, h.nm, h.o0, h.o1, hn, hk⟩
theorem Bg.start {R : DS} {N : Nat} (h : Bg R N) : Bg R.start N := ⟨h.nf, h.nb, h.sz, h.nd, h.nm, h.o0, h.o1, by show (0 : Int) ≤ _; omega, h.k1⟩
theorem Ak.arm {D R : DS} (h : Ak D R) (n k : Int) : Ak (armD D n k) (armD R n k) := by
  unfold armD
  rw [h.of]
  split
  · exact h
  · exact ⟨h.f, h.b, h.bl, rfl, h.op, rfl, rfl⟩
theorem Ak.start {D R : DS} (h : Ak D R) : Ak D.start R.start := ⟨h.f, h.b, h.bl, rfl, h.op, rfl, h.ke⟩
end Go.Proofs.Ytdlbccjimdghkaa

namespace Go.Proofs.Ytdlbccjimdghkaa
open Go.RowKit
set_option linter.unusedVariables false
set_option linter.unusedSimpArgs false
def leN {β : Type} (a b : Nm × β) : Prop := a.1.data.toList ≤ b.1.data.toList
theorem gtN_true {z s : Nm} (h : gtN z s = true) : s.data.toList ≤ z.data.toList := by
  unfold gtN at h
  rw [bytesLess_eq, ByteArray.toList_eq, ByteArray.toList_eq] at h
  simp only [Bool.not_or, Bool.and_eq_true, Bool.not_eq_true', decide_eq_false_iff_not] at h
  exact h.1
theorem gtN_false {z s : Nm} (h : ¬ gtN z s = true) : z.data.toList ≤ s.data.toList := by
  unfold gtN at h
  rw [bytesLess_eq, ByteArray.toList_eq, ByteArray.toList_eq] at h
  simp only [Bool.not_or, Bool.and_eq_true, Bool.not_eq_true', decide_eq_false_iff_not, not_and, Bool.not_eq_false] at h
  by_cases hl : z.data.toList < s.data.toList
  · exact List.le_of_lt hl
  · have := eq_of_beq (h hl)
    rw [this]; exact List.le_refl _
theorem insT_sorted {β : Type} (f : Nm × β) (V : List (Nm × β)) : ∀ K, (K ++ V).Pairwise leN → (∀ x ∈ K, leN x f) → (let q := V.foldl (insS f) (K, false); (if q.2 then q.1 else q.1 ++ [f]).Pairwise leN) := by
  induction V with
  | nil =>
    intro K h1 h2
    rw [List.append_nil] at h1
    show (K ++ [f]).Pairwise leN
    exact List.pairwise_append.2 ⟨h1, List.pairwise_singleton _ _, fun a ha b hb => by rw [List.mem_singleton.1 hb]; exact h2 a ha⟩
  | cons x V ih =>
    intro K h1 h2
    dsimp only
    rw [List.foldl_cons]
    by_cases h : gtN x.1 f.1 = true
    · rw [show insS f (K, false) x = (K ++ [f] ++ [x], true) from if_pos ⟨h, rfl⟩, insT_true, if_pos rfl]
      have hx : leN f x := gtN_true h
      obtain ⟨hK, hV, hKV⟩ := List.pairwise_append.1 h1
      have hf : ∀ y ∈ x :: V, leN f y := fun y hy => by
        rcases List.mem_cons.1 hy with rfl | hy
        · exact hx
        · exact List.le_trans hx ((List.pairwise_cons.1 hV).1 y hy)
      have : K ++ [f] ++ [x] ++ V = K ++ (f :: x :: V) := by simp
      rw [this]
      refine List.pairwise_append.2 ⟨hK, List.pairwise_cons.2 ⟨hf, hV⟩, fun a ha b hb => ?_⟩
      rcases List.mem_cons.1 hb with rfl | hb
      · exact h2 a ha
      · exact hKV a ha b hb
    · rw [show insS f (K, false) x = (K ++ [x], false) from if_neg (fun h' => h h'.1)]
      exact ih (K ++ [x]) (by rw [List.append_assoc]; exact h1) fun y hy => by
        rcases List.mem_append.1 hy with hy | hy
        · exact h2 y hy
        · rw [List.mem_singleton.1 hy]; exact gtN_false h
theorem insG_sorted {β : Type} (f : Nm × β) {V : List (Nm × β)} (h : V.Pairwise leN) : (insG f V).Pairwise leN := insT_sorted f V [] (by simpa using h) (fun x hx => by cases hx)
end Go.Proofs.Ytdlbccjimdghkaa

namespace Go.Proofs.Ytdlbccjimdghkaa
open Go.RowKit
set_option linter.unusedVariables false
set_option linter.unusedSimpArgs false
/-- in order, with good names -/
structure Or (R : DS) : Prop where
  so : R.F.Pairwise leN
  go : ∀ x ∈ R.F, goodB x.1 = true
theorem Or.same {R R' : DS} (h : Or R) (hk : R'.F.map (·.1) = R.F.map (·.1)) : Or R' := by
  have e : ∀ F : List (Nm × By), F.Pairwise leN ↔ (F.map (·.1)).Pairwise (fun a b : Nm => a.data.toList ≤ b.data.toList) := fun F => by rw [List.pairwise_map]; rfl
  refine ⟨by rw [e, hk, ← e]; exact h.so, fun x hx => ?_⟩
  have : x.1 ∈ R'.F.map (·.1) := List.mem_map.2 ⟨x, hx, rfl⟩
  rw [hk] at this
  obtain ⟨y, hy, e⟩ := List.mem_map.1 this
  rw [← e]; exact h.go y hy
theorem Or.gone {R : DS} (h : Or R) (n : Nm) : Or (R.gone n) := ⟨h.so.filter _, fun x hx => h.go x (mem_adel hx)⟩
theorem Or.settle {R : DS} (h : Or R) (n : Nat) : Or (R.settle n) := h.same (settleF_keys _ _ _)
theorem Or.crash {R : DS} (h : Or R) (k : Int) : Or (R.crash k) := h.same (settleF_keys _ _ _)
theorem Or.begun {R : DS} (h : Or R) : Or R.begun := by
  unfold DS.begun
  split
  · exact h.same rfl
  · split
    · refine Or.crash ?_ _
      exact h.same rfl
    · exact h.same rfl
theorem Or.put {R : DS} (h : Or R) {n : Nm} (s : By) (hn : goodB n = true) : Or (qput R n s) := ⟨insG_sorted _ h.so, fun x hx => by
  rcases insG_mem x hx with rfl | hx
  · exact hn
  · exact h.go x hx⟩
theorem Or.creD {R : DS} (h : Or R) (n : Nm) : Or (qcreD R n) := by
  unfold qcreD
  split
  · exact h
  · split
    · next hg =>
      split
      · unfold qcreD1
        cases aget R.begun.F n with
        | some s => exact (h.begun.gone n).put _ hg
        | none =>
          dsimp only
          split
          · exact h.begun
          · exact h.begun.put _ hg
      · exact h.begun
    · exact h
theorem Or.appD {R : DS} (h : Or R) (n : Nm) (b : By) : Or (appD R n b) := by
  unfold Go.Proofs.Ytdlbccjimdghkaa.appD
  split
  · exact h
  · cases aget R.F n with
    | none => exact h
    | some s =>
      dsimp only
      split
      · split
        · exact h.begun
        · exact h.begun.same rfl
      · exact h.begun
theorem Or.syncD {R : DS} (h : Or R) : Or (syncD R) := by
  unfold Go.Proofs.Ytdlbccjimdghkaa.syncD
  split
  · exact h
  · split
    · exact h.begun.settle _
    · exact h.begun
theorem Or.remD {R : DS} (h : Or R) (n : Nm) : Or (remD R n) := by
  unfold Go.Proofs.Ytdlbccjimdghkaa.remD
  split
  · exact h
  · cases aget R.F n with
    | none => exact h
    | some s =>
      dsimp only
      split
      · exact h.begun.gone n
      · exact h.begun
theorem Or.renD {R : DS} (h : Or R) (a b : Nm) : Or (qrenD R a b) := by
  unfold qrenD
  split
  · exact h
  · split
    · next hg =>
      cases aget R.F a with
      | none => exact h
      | some s =>
        dsimp only
        split
        · unfold qren1
          split
          · exact h.begun
          · have h2 := (h.begun.gone b).gone a
            exact ⟨insG_sorted _ h2.so, fun x hx => by
              rcases insG_mem x hx with rfl | hx
              · exact hg
              · exact h2.go x hx⟩
        · exact h.begun
    · exact h
theorem Or.spoD {R : DS} (h : Or R) (n : Nm) (i bit : Int) : Or (spoD R n i bit) := by
  unfold Go.Proofs.Ytdlbccjimdghkaa.spoD
  split
  · exact h
  · cases aget R.F n with
    | none => exact h
    | some s =>
      dsimp only
      split
      · exact h
      · split
        · exact h.same (flipF_keys _ _ _ _)
        · exact h.same rfl
theorem Or.arm {R : DS} (h : Or R) (n k : Int) : Or (armD R n k) := by
  unfold armD
  split
  · exact h
  · exact h.same rfl
end Go.Proofs.Ytdlbccjimdghkaa

namespace Go.Proofs.Ytdlbccjimdghkaa
open Go.RowKit
set_option linter.unusedVariables false
set_option linter.unusedSimpArgs false
theorem blks_eq {BV : List (Nm × By × Value)} (h : (blks BV).Nodup) {i j z : Nat} {x y : Nm × By × Value} (hx : BV[i]? = some x) (hy : BV[j]? = some y) (ex : x.2.2.ownBlock = some z) (ey : y.2.2.ownBlock = some z) : i = j := by
  unfold blks List.Nodup at h
  rw [List.pairwise_filterMap, List.pairwise_iff_getElem] at h
  obtain ⟨hi, ei⟩ := List.getElem?_eq_some_iff.1 hx
  obtain ⟨hj, ej⟩ := List.getElem?_eq_some_iff.1 hy
  rcases Nat.lt_trichotomy i j with hlt | he | hlt
  · exact absurd rfl (h i j hi hj hlt z (by rw [ei]; exact ex) z (by rw [ej]; exact ey))
  · exact he
  · exact absurd rfl (h j i hj hi hlt z (by rw [ej]; exact ey) z (by rw [ei]; exact ex))
theorem set_map {α β : Type} (g : α → β) {l : List α} {k : Nat} {x y : α} (h : l[k]? = some x) (e : g y = g x) : (l.set k y).map g = l.map g := by
  rw [List.map_set, e]
  obtain ⟨hk, hx⟩ := List.getElem?_eq_some_iff.1 h
  rw [← hx]
  apply List.ext_getElem (by simp)
  intro i h1 h2
  simp only [List.getElem_set, List.getElem_map]
  split
  · next he => subst he; rfl
  · rfl
theorem blks_set {BV : List (Nm × By × Value)} {k : Nat} {x y : Nm × By × Value} (h : BV[k]? = some x) (e : y.2.2 = x.2.2) : blks (BV.set k y) = blks BV := by
  have h1 : ∀ l : List (Nm × By × Value), blks l = (l.map fun x => x.2.2).filterMap Value.ownBlock := fun l => by rw [List.filterMap_map]; rfl
  rw [h1, h1, set_map (fun x : Nm × By × Value => x.2.2) h e]
theorem wcs_set {fp : Nm → Nat} {BV : List (Nm × By × Value)} {k : Nat} {x y : Nm × By × Value} (h : BV[k]? = some x) (e1 : y.1 = x.1) (e2 : y.2.2 = x.2.2) : wcs fp (BV.set k y) = wcs fp BV := by
  have h1 : ∀ l : List (Nm × By × Value), wcs fp l = (l.map fun x => (x.1, x.2.2)).flatMap fun x => [.pointer (some ⟨fp x.1, 0, Option.none⟩), x.2] := fun l => by rw [List.flatMap_map]; rfl
  rw [h1, h1, set_map (fun x : Nm × By × Value => (x.1, x.2.2)) h (by rw [e1, e2])]
theorem moreOf_map (B : List (Nm × By)) (n : Nm) : moreOf B n = ((B.map fun x => (x.1, x.2.length)).map fun x => if x.1 = n then x.2 else 0).sum := by
  induction B with
  | nil => rfl
  | cons x l ih => rw [moreOf, ih]; rfl
theorem moreOf_set {B : List (Nm × By)} {k : Nat} {x y : Nm × By} (h : B[k]? = some x) (e1 : y.1 = x.1) (e2 : y.2.length = x.2.length) (n : Nm) : moreOf (B.set k y) n = moreOf B n := by
  rw [moreOf_map, moreOf_map, set_map (fun x : Nm × By => (x.1, x.2.length)) h (by rw [e1, e2])]
theorem usedOf_len {F G B C : List (Nm × By)} (hF : F.map (fun x => (x.1, x.2.length)) = G.map fun x => (x.1, x.2.length)) (hB : ∀ n, moreOf B n = moreOf C n) : usedOf F B = usedOf G C := by
  have h1 : ∀ F B : List (Nm × By), usedOf F B = ((F.map fun x => (x.1, x.2.length)).map fun x => needs (x.2 + moreOf B x.1)).sum := fun F B => by rw [List.map_map]; rfl
  rw [h1, h1, hF]
  congr 1
  apply List.map_congr_left
  intro x _
  rw [hB]
theorem flipF_lens (F : List (Nm × By)) (n : Nm) (i bit : Nat) : (flipF F n i bit).map (fun x => (x.1, x.2.length)) = F.map fun x => (x.1, x.2.length) := by
  rw [flipF, List.map_map]
  apply List.map_congr_left
  intro x _
  simp only [Function.comp_def]
  split
  · simp only [flip_len]
  · rfl
theorem Dk0.flipF {w w' : World} {p : Nat} {ro : Nat → Role} {D : DS} {m : Nat} {fp : Nm → Nat} {bv : Value} {BV : List (Nm × By × Value)} (h : Dk0 w p ro D m fp bv BV) {n : Nm} {s : By} {sv : Value} {i bit : Nat} (hs : (n, s) ∈ D.F)
    (hc : w.heap[fp n]? = some (.cells #[sv, .int .i64 (moreOf D.B n)] 65 (0, 0))) (hq : ∀ b, sv.ownBlock = some b → ro b = .sure (fp n))
    (hrow : w'.ownsRow 0 5 1 sv s.length (u8s (flip s i bit))) (kp : Kp (fun b => ro b ≠ .sure (fp n)) w w') : Dk0 w' p ro { D with F := Go.Proofs.Ytdlbccjimdghkaa.flipF D.F n i bit } m fp bv BV := by
  have hnd : (D.F.map (·.1)).Nodup := by
    have := h.map.nodup strKey
    simpa [List.map_map, Function.comp_def] using this
  have hu : usedOf (Go.Proofs.Ytdlbccjimdghkaa.flipF D.F n i bit) D.B = usedOf D.F D.B := usedOf_len (flipF_lens ..) fun _ => rfl
  have hk := flipF_keys D.F n i bit
  refine ⟨?_, ?_, ⟨?_, ?_, ?_⟩, h.bf.kept kp (fun b hb => by rcases hb with e | e <;> rw [e] <;> simp), h.rp, h.rm, fun b hb => Nat.lt_of_lt_of_le (h.lt b hb) kp.size, ?_, h.bl, h.kw, ?_⟩
  · show _ = some (Obj.cells (dcs D (usedOf (Go.Proofs.Ytdlbccjimdghkaa.flipF D.F n i bit) D.B : Nat) m bv) _ _)
    rw [hu]
    exact kp.heap h.cell (by rw [h.rp]; simp)
  · have e : (Go.Proofs.Ytdlbccjimdghkaa.flipF D.F n i bit).map (fun x => (x.1, Value.pointer (some ⟨fp x.1, 0, none⟩))) = D.F.map (fun x => (x.1, Value.pointer (some ⟨fp x.1, 0, none⟩))) := by
      have h1 : ∀ F : List (Nm × By), F.map (fun x => (x.1, Value.pointer (some ⟨fp x.1, 0, none⟩))) = (F.map (·.1)).map fun x => (x, Value.pointer (some ⟨fp x, 0, none⟩)) := fun F => by rw [List.map_map]; rfl
      rw [h1, h1, hk]
    show SMap w' m ((Go.Proofs.Ytdlbccjimdghkaa.flipF D.F n i bit).map _)
    rw [e]
    exact h.map.kept kp (by rw [h.rm]; simp)
  · intro x hx
    obtain ⟨y, hy, rfl⟩ := List.mem_map.1 hx
    by_cases e : y.1 = n
    · have : y.2 = s := key_one hnd (n := n) (by rw [← e]; exact hy) hs
      obtain ⟨y1, y2⟩ := y
      dsimp only at e this
      subst e this
      rw [if_pos rfl]
      refine ⟨sv, kp.heap hc (by rw [h.fl.role _ hs]; simp), ?_, hq⟩
      dsimp only
      rw [flip_len]
      exact hrow
    · rw [if_neg e]
      obtain ⟨v, h1, h2, h3⟩ := h.fl.lie y hy
      have hne : fp y.1 ≠ fp n := fun e2 => e (h.fl.inj y hy _ hs e2)
      exact ⟨v, kp.heap h1 (by rw [h.fl.role y hy]; simp), own_kept h2 kp fun b hb => by rw [h3 b hb]; simpa using hne, h3⟩
  · intro x hx
    obtain ⟨y, hy, rfl⟩ := List.mem_map.1 hx
    have : (if y.1 = n then (y.1, flip y.2 i bit) else y).1 = y.1 := by split <;> rfl
    rw [this]
    exact h.fl.role y hy
  · intro x hx x' hx' e
    obtain ⟨y, hy, rfl⟩ := List.mem_map.1 hx
    obtain ⟨y', hy', rfl⟩ := List.mem_map.1 hx'
    have e1 : (if y.1 = n then (y.1, flip y.2 i bit) else y).1 = y.1 := by split <;> rfl
    have e2 : (if y'.1 = n then (y'.1, flip y'.2 i bit) else y').1 = y'.1 := by split <;> rfl
    rw [e1, e2] at e ⊢
    exact h.fl.inj y hy y' hy' e
  · intro x hx
    show x.1 ∈ (Go.Proofs.Ytdlbccjimdghkaa.flipF D.F n i bit).map (·.1)
    rw [hk]
    exact h.names x hx
  · show ((usedOf (Go.Proofs.Ytdlbccjimdghkaa.flipF D.F n i bit) D.B : Nat) : Int) ≤ D.blocks
    rw [hu]
    exact h.us
theorem Dk0.flipB {w w' : World} {p : Nat} {ro : Nat → Role} {D : DS} {m : Nat} {fp : Nm → Nat} {bv : Value} {BV : List (Nm × By × Value)} (h : Dk0 w p ro D m fp bv BV) {k : Nat} {n : Nm} {b b' : By} {v : Value} (hx : BV[k]? = some (n, b, v)) (hl : b'.length = b.length)
    (hrow : w'.ownsRow 0 5 1 v b.length (u8s b')) (kp : Kp (fun z => some z ≠ v.ownBlock) w w') : Dk0 w' p ro { D with B := D.B.set k (n, b') } m fp bv (BV.set k (n, b', v)) := by
  have hxB : D.B[k]? = some (n, b) := by rw [h.bf.eq, List.getElem?_map, hx]; rfl
  have hm : ∀ q, moreOf (D.B.set k (n, b')) q = moreOf D.B q := moreOf_set hxB rfl hl
  have hu : usedOf D.F (D.B.set k (n, b')) = usedOf D.F D.B := usedOf_len rfl hm
  have hd := h.bf.data _ (List.mem_of_getElem? hx)
  have kk : ∀ z, ro z ≠ .data → some z ≠ v.ownBlock := fun z hz e => hz (hd.2 z e.symm)
  have hlen : (D.B.set k (n, b')).length = D.B.length := List.length_set ..
  refine ⟨?_, h.map.kept kp (kk _ (by rw [h.rm]; simp)), ⟨?_, h.fl.role, h.fl.inj⟩, ⟨?_, ?_, h.bf.role, ?_, ?_⟩, h.rp, h.rm, fun b hb => Nat.lt_of_lt_of_le (h.lt b hb) kp.size, ?_, h.bl, h.kw, ?_⟩
  · show _ = some (Obj.cells (dcs D (usedOf D.F (D.B.set k (n, b')) : Nat) m bv) _ _)
    rw [hu]
    exact kp.heap h.cell (kk _ (by rw [h.rp]; simp))
  · intro x hx
    obtain ⟨u, h1, h2, h3⟩ := h.fl.lie x hx
    refine ⟨u, ?_, own_kept h2 kp fun z hz => kk z (by rw [h3 z hz]; simp), h3⟩
    show _ = some (Obj.cells #[u, .int .i64 (moreOf (D.B.set k (n, b')) x.1 : Nat)] _ _)
    rw [hm]
    exact kp.heap h1 (kk _ (by rw [h.fl.role x hx]; simp))
  · show D.B.set k (n, b') = _
    rw [List.map_set, ← h.bf.eq]
  · show w'.ownsRow 0 67 2 bv (D.B.set k (n, b')).length _
    rw [hlen, wcs_set (y := (n, b', v)) hx rfl rfl]
    exact own_kept h.bf.row kp fun z hz => kk z (by rw [h.bf.role z hz]; simp)
  · intro x hx'
    obtain ⟨j, hj⟩ := List.mem_iff_getElem?.1 hx'
    by_cases e : k = j
    · subst e
      rw [List.getElem?_set_self (List.getElem?_eq_some_iff.1 hx).1] at hj
      injection hj with hj
      subst hj
      dsimp only
      rw [hl]
      exact ⟨hrow, hd.2⟩
    · rw [List.getElem?_set_ne e] at hj
      obtain ⟨h1, h2⟩ := h.bf.data x (List.mem_of_getElem? hj)
      exact ⟨own_kept h1 kp fun z hz e2 => e (blks_eq h.bf.one hx hj e2.symm hz), h2⟩
  · rw [blks_set (y := (n, b', v)) hx rfl]
    exact h.bf.one
  · intro x hx'
    rcases List.mem_or_eq_of_mem_set hx' with h1 | rfl
    · exact h.names x h1
    · exact h.names (n, b) (List.mem_of_getElem? hxB)
  · show ((usedOf D.F (D.B.set k (n, b')) : Nat) : Int) ≤ D.blocks
    rw [hu]
    exact h.us
theorem flipB_at {n : Nm} {bit : Nat} {B : List (Nm × By)} {r0 r j : Nat} {b : By} (hfl : Go.Proofs.Ytdlbccjimdghkaa.flipB n bit B r0 = B.take j ++ Go.Proofs.Ytdlbccjimdghkaa.flipB n bit (B.drop j) r) (hx : B[j]? = some (n, b)) (hr : r < b.length) : Go.Proofs.Ytdlbccjimdghkaa.flipB n bit B r0 = B.set j (n, flip b r bit) := by
  rw [drop_at hx, Go.Proofs.Ytdlbccjimdghkaa.flipB, if_pos rfl, if_pos hr] at hfl
  rw [hfl, List.set_eq_take_append_cons_drop, if_pos (List.getElem?_eq_some_iff.1 hx).1]
theorem flipB_past {n : Nm} {bit : Nat} {B : List (Nm × By)} {r0 r j : Nat} {b : By} (hfl : Go.Proofs.Ytdlbccjimdghkaa.flipB n bit B r0 = B.take j ++ Go.Proofs.Ytdlbccjimdghkaa.flipB n bit (B.drop j) r) (hx : B[j]? = some (n, b)) (hr : ¬ r < b.length) : Go.Proofs.Ytdlbccjimdghkaa.flipB n bit B r0 = B.take (j + 1) ++ Go.Proofs.Ytdlbccjimdghkaa.flipB n bit (B.drop (j + 1)) (r - b.length) := by
  rw [drop_at hx, Go.Proofs.Ytdlbccjimdghkaa.flipB, if_pos rfl, if_neg hr] at hfl
  rw [hfl, List.take_add_one, hx]
  simp
theorem flipB_other {n : Nm} {bit : Nat} {B : List (Nm × By)} {r0 r j : Nat} {x : Nm × By} (hfl : Go.Proofs.Ytdlbccjimdghkaa.flipB n bit B r0 = B.take j ++ Go.Proofs.Ytdlbccjimdghkaa.flipB n bit (B.drop j) r) (hx : B[j]? = some x) (hn : x.1 ≠ n) : Go.Proofs.Ytdlbccjimdghkaa.flipB n bit B r0 = B.take (j + 1) ++ Go.Proofs.Ytdlbccjimdghkaa.flipB n bit (B.drop (j + 1)) r := by
  rw [drop_at hx, Go.Proofs.Ytdlbccjimdghkaa.flipB, if_neg hn] at hfl
  rw [hfl, List.take_add_one, hx]
  simp
end Go.Proofs.Ytdlbccjimdghkaa

namespace Go.Proofs.Ytdlbccjimdghkaa
open Go.RowKit
set_option linter.unusedVariables false
set_option linter.unusedSimpArgs false
set_option maxRecDepth 100000 in
theorem turn_no (ba bb i bt n c : Nat) (A : Option Addr) (w : World) (h1 : w.heap[ba]? = some (.cells #[.int .i64 i] 3 (0, 0))) (hle : n ≤ i) (hi : i ≤ 1000000000000) :
    Calls Try.prog 64 #[.slice A n c, .pointer (some ⟨ba, 0, none⟩), .pointer (some ⟨bb, 0, none⟩)] w fun e w' => e = .returned (.bool false) ∧ w' = w.setCell ⟨ba, 0, none⟩ (.int .i64 (i - n : Nat)) := by
  have c1 := blk_cell h1
  have f1 := blk_free h1
  have hd : decide ((i : Int) ≥ (n : Int)) = true := decide_eq_true (by omega)
  have hw : IntKind.i64.wrap ((i : Int) - (n : Int)) = ((i - n : Nat) : Int) := by rw [IntWalk.i64_in _ (by omega)]; omega
  clear h1
  go_enter Try.func64, Try.ntmps64
  go_wp2_with fail
  go_ret
  exact ⟨rfl, rfl⟩
set_option maxRecDepth 100000 in
theorem turn_yes (ba bb i bt n c g : Nat) (x : Nat) (w : World) (h1 : w.heap[ba]? = some (.cells #[.int .i64 i] 3 (0, 0))) (h2 : w.heap[bb]? = some (.cells #[.int .i64 bt] 3 (0, 0))) (hlt : i < n) (hi : n ≤ 1000000000000) (hb : bt ≤ 7)
    (hx : w.cell? ⟨g, i, none⟩ = some (.int .u8 x)) (hf : w.frozen? ⟨g, i, none⟩ = false) :
    Calls Try.prog 64 #[.slice (some ⟨g, 0, none⟩) n c, .pointer (some ⟨ba, 0, none⟩), .pointer (some ⟨bb, 0, none⟩)] w fun e w' => e = .returned (.bool true) ∧ w' = (w.setCell ⟨g, i, none⟩ (.int .u8 (bits .xor .u8 (x : Int) (2 ^ bt % 256)))).drew := by
  have c1 := blk_cell h1
  have c2 := blk_cell h2
  have hd : decide ((i : Int) ≥ (n : Int)) = false := decide_eq_false (by omega)
  have i0 : (0 : Int) ≤ (i : Int) := by omega
  have i1 : (i : Int) < (n : Int) := by omega
  clear h1 h2
  go_enter Try.func64, Try.ntmps64
  go_wp2_with fail
  go_still_tail 8, (by kernel_rfl)
  change wpList _ _ _ _ _ w.drew
  rw [IntKind.wrap_u8]
  go_wp2_with fail
  go_ret
  exact ⟨rfl, rfl⟩

set_option maxRecDepth 100000 in
set_option maxHeartbeats 2000000 in
theorem spoil_any (p : Nat) (ro : Nat → Role) (D : DS) (n : Nm) (i bit : Int) (w : World) (h : Dk w p ro D) :
    Calls Try.prog 32 #[.pointer (some ⟨p, 0, none⟩), .string n, .int .i64 i, .int .i64 bit] w (Op1 w ro p (spoErr D n i bit) (spoD D n i bit)) := by
  have HD := hid h
  obtain ⟨m, fp, bv, BV, h⟩ := h
  have H := hid h
  have hp := blk_lt h.cell
  have c1 := blk_cell h.cell
  have B1 := hid h.cell
  unfold dcs at c1
  obtain ⟨bo, hbo⟩ : ∃ x, D.off = x := ⟨_, rfl⟩
  obtain ⟨y, hy⟩ : ∃ y, aget D.F n = y := ⟨_, rfl⟩
  have HBO := hid hbo
  have HY := hid hy
  have hz : ∀ w : World, (zeroValue 62).run Try.prog w = .ok (.pointer none) w := fun w => by kernel_rfl
  have hmf : ∀ (fn : Fn) (first cap : Array Value) (w : World), (Instr.makeFunc fn first cap).run Try.prog w = .ok (.func fn first cap) w := fun _ _ _ _ => rfl
  have hmap : (aget (D.F.map fun x => (x.1, Value.pointer (some ⟨fp x.1, 0, none⟩))) n) = y.map fun _ => Value.pointer (some ⟨fp n, 0, none⟩) := by
    rw [aget_keys D.F (fun x => Value.pointer (some ⟨fp x, 0, none⟩)), hy]
  have HMAP := hid hmap
  have hpl := h.pend_le
  have hk2 : Kp All w ((w.alloc (.cells #[.int .i64 i] 3)).alloc (.cells #[.int .i64 bit] 3)) := (Kp.al _ _).alloc _
  have HK2 := hid hk2
  have c1 := blk_cell (hk2.heap h.cell trivial)
  unfold dcs at c1
  clear h hbo hy hmap hk2
  cases bo
  · cases y with
    | none =>
      have hv : (aget (D.F.map fun x => (x.1, Value.pointer (some ⟨fp x.1, 0, none⟩))) n).getD (.pointer none) = .pointer none := by rw [HMAP.out]; rfl
      have HV := hid hv
      clear hv
      go_enter Try.func32, Try.ntmps32
      go_wp2_with fail
      refine (may_any p m D _ bv _ (HK2.out.heap B1.out trivial)).mono ?_
      rintro e w1 ⟨rfl, rfl⟩
      rw [show mayErr D = 0 from by rw [mayErr, HBO.out]; rfl]
      go_wp2_with (at_lookup; go_loud (refine wpList_lookup_val strKey Try.underlying54 (H.out.map.all HK2.out) n (hz _) HV.out rfl _ _ rfl rfl rfl ?_))
      go_ret
      refine ⟨?_, ?_⟩
      · rw [spoErr, HBO.out, HY.out]; rfl
      · rw [spoD, HBO.out, HY.out]; exact HD.out.nx HK2.out
    | some s =>
      have hv : (aget (D.F.map fun x => (x.1, Value.pointer (some ⟨fp x.1, 0, none⟩))) n).getD (.pointer none) = .pointer (some ⟨fp n, 0, none⟩) := by rw [HMAP.out]; rfl
      have hs := aget_mem HY.out
      have hsz := H.out.size_le hs
      obtain ⟨sv, q1, q2, q3⟩ := H.out.fl.lie _ hs
      simp only at q1 q2 q3 hsz
      obtain ⟨SA, sc, rfl⟩ := own_shape q2
      have HQ1 := hid q1; have HQ2 := hid q2; have HQ3 := hid q3
      obtain ⟨mo, hmo⟩ : ∃ mo, moreOf D.B n = mo := ⟨_, rfl⟩
      obtain ⟨sl, hsl⟩ : ∃ sl, s.length = sl := ⟨_, rfl⟩
      have HMO := hid hmo; have HSL := hid hsl
      obtain ⟨f, hf⟩ : ∃ f, fp n = f := ⟨_, rfl⟩
      have HF := hid hf; have HS := hid hs
      rw [hmo, hsl, hf] at q1
      rw [hmo, hsl] at hsz
      rw [hf] at hv
      have HV := hid hv
      have q1' := HK2.out.heap q1 trivial
      have B2 := hid q1'
      have c2 := blk_cell q1'
      obtain ⟨sz, hsz2⟩ : ∃ sz, sl + mo = sz := ⟨_, rfl⟩
      have HSZ := hid hsz2
      rw [hsz2] at hsz
      have hsl9 : sl ≤ 1073741824 := by omega
      have hmo9 : mo ≤ 1073741824 := by omega
      clear hv hs q1 q2 q3 hmo hsl hf q1' hsz2
      by_cases e1 : i < 0
      · have b1 : decide (i < 0) = true := decide_eq_true e1
        have hq := show spoOut D n s i bit from .inl e1
        have HE := hid (show spoErr D n i bit = 6 ∧ spoD D n i bit = D by rw [spoErr, spoD, HBO.out, HY.out]; exact ⟨if_pos hq, if_pos hq⟩)
        clear hq e1
        go_enter Try.func32, Try.ntmps32
        go_wp2_with fail
        refine (may_any p m D _ bv _ (HK2.out.heap B1.out trivial)).mono ?_
        rintro e w1 ⟨rfl, rfl⟩
        rw [show mayErr D = 0 from by rw [mayErr, HBO.out]; rfl]
        go_wp2_with (at_lookup; go_loud (refine wpList_lookup_val strKey Try.underlying54 (H.out.map.all HK2.out) n (hz _) HV.out rfl _ _ rfl rfl rfl ?_))
        go_ret
        rw [HE.out.1, HE.out.2]
        exact ⟨rfl, HD.out.nx HK2.out⟩
      · have b1 : decide (i < 0) = false := decide_eq_false e1
        obtain ⟨at_, rfl⟩ : ∃ at_ : Nat, i = (at_ : Int) := ⟨i.toNat, by omega⟩
        clear e1
        have hcs : (¬ at_ < sz ∨ (at_ < sz ∧ bit < 0) ∨ (at_ < sz ∧ ¬ bit < 0 ∧ bit > 7)) ∨ (at_ < sz ∧ ¬ bit < 0 ∧ ¬ bit > 7) := by omega
        rcases hcs with hcs | hcs
        · have hq : spoOut D n s (at_ : Int) bit := by unfold spoOut; rw [HMO.out, HSL.out, HSZ.out]; omega
          have HE := hid (show spoErr D n at_ bit = 6 ∧ spoD D n at_ bit = D by rw [spoErr, spoD, HBO.out, HY.out]; exact ⟨if_pos hq, if_pos hq⟩)
          clear hq
          obtain ⟨b2, hb2⟩ : ∃ b2, decide (sz ≤ at_) = b2 := ⟨_, rfl⟩
          obtain ⟨b3, hb3⟩ : ∃ b3, decide (bit < 0) = b3 := ⟨_, rfl⟩
          obtain ⟨b4, hb4⟩ : ∃ b4, decide (bit > 7) = b4 := ⟨_, rfl⟩
          have hor : b2 = true ∨ (b2 = false ∧ b3 = true) ∨ (b2 = false ∧ b3 = false ∧ b4 = true) := by
            rcases hcs with h | h | h
            · left; rw [← hb2]; exact decide_eq_true (by omega)
            · right; left; exact ⟨by rw [← hb2]; exact decide_eq_false (by omega), by rw [← hb3]; exact decide_eq_true h.2⟩
            · right; right; exact ⟨by rw [← hb2]; exact decide_eq_false (by omega), by rw [← hb3]; exact decide_eq_false h.2.1, by rw [← hb4]; exact decide_eq_true h.2.2⟩
          clear hcs
          have hor2 : (b2 = true ∨ (b2 = false ∧ b3 = true)) ∨ (b2 = false ∧ b3 = false ∧ b4 = true) := by rcases hor with h | h | h <;> simp [h]
          clear hor
          rcases hor2 with (rfl | ⟨rfl, rfl⟩) | ⟨rfl, rfl, rfl⟩
          all_goals (
            go_enter Try.func32, Try.ntmps32
            go_wp2_with fail
            refine (may_any p m D _ bv _ (HK2.out.heap B1.out trivial)).mono ?_
            rintro e w1 ⟨rfl, rfl⟩
            rw [show mayErr D = 0 from by rw [mayErr, HBO.out]; rfl]
            go_wp2_with (at_lookup; go_loud (refine wpList_lookup_val strKey Try.underlying54 (H.out.map.all HK2.out) n (hz _) HV.out rfl _ _ rfl rfl rfl ?_))
            go_quiet ((go_at_call 41; refine (size_any f SA sl sc mo (by omega) (by omega) _ (by exact B2.out)).mono ?_; rintro e w1 ⟨rfl, q, rfl⟩; rw [HSZ.out]; exact ⟨rfl, _, World.drewN_drewN _ _ _⟩))
            go_wp2_with fail
            go_ret
            rw [HE.out.1, HE.out.2]
            exact ⟨rfl, HD.out.nx (HK2.out.drewN _)⟩)
        · obtain ⟨h1, h2, h3⟩ := hcs
          obtain ⟨bt, rfl⟩ : ∃ bt : Nat, bit = (bt : Int) := ⟨bit.toNat, by omega⟩
          have hbt : bt ≤ 7 := by omega
          have b2 : decide (sz ≤ at_) = false := decide_eq_false (by omega)
          have b3 : decide ((bt : Int) < 0) = false := decide_eq_false (by omega)
          have b4 : decide ((bt : Int) > 7) = false := decide_eq_false (by omega)
          have hq : ¬ spoOut D n s (at_ : Int) (bt : Int) := by unfold spoOut; rw [HMO.out, HSL.out, HSZ.out]; omega
          have HQ := hid hq
          clear hq
          by_cases hlt : at_ < sl
          · have HE := hid (show spoErr D n at_ bt = 0 ∧ spoD D n at_ bt = { D with F := flipF D.F n at_ bt } by rw [spoErr, spoD, HBO.out, HY.out]; exact ⟨if_neg HQ.out, (if_neg HQ.out).trans (by rw [if_pos (by rw [HSL.out]; omega)]; rfl)⟩)
            go_enter Try.func32, Try.ntmps32
            go_wp2_with fail
            refine (may_any p m D _ bv _ (HK2.out.heap B1.out trivial)).mono ?_
            rintro e w1 ⟨rfl, rfl⟩
            rw [show mayErr D = 0 from by rw [mayErr, HBO.out]; rfl]
            go_wp2_with (at_lookup; go_loud (refine wpList_lookup_val strKey Try.underlying54 (H.out.map.all HK2.out) n (hz _) HV.out rfl _ _ rfl rfl rfl ?_))
            go_quiet ((go_at_call 41; refine (size_any f SA sl sc mo (by omega) (by omega) _ (by exact B2.out)).mono ?_; rintro e w1 ⟨rfl, q, rfl⟩; rw [HSZ.out]; exact ⟨rfl, _, World.drewN_drewN _ _ _⟩))
            go_wp2_with fail
            have hown := own_kept HQ2.out (HK2.out.drewN nq) (fun _ _ => trivial)
            rw [HSL.out] at hown
            have hzat : (u8s s)[at_]? = some (.int .u8 (s.getD at_ 0).toNat) := by
              rw [u8s, List.getElem?_map, List.getElem?_eq_getElem (by rw [HSL.out]; exact hlt), List.getD_eq_getElem?_getD, List.getElem?_eq_getElem (by rw [HSL.out]; exact hlt)]; rfl
            have HOWN := hid hown
            rcases own_at hown with ⟨_, h0, _⟩ | ⟨g, gcap, gcur, eg, hg, _, hat⟩
            · exact absurd h0 (by omega)
            injection eg with eA _ ec
            subst eA ec
            refine (turn_yes w.heap.size (w.heap.size + 1) at_ bt sl sc g (s.getD at_ 0).toNat _ ?_ ?_ hlt (by omega) hbt (hat _ _ hzat) (hown.frozenAt _)).mono ?_
            · exact blk_alloc (blk_new w _) _
            · have := blk_new (w.alloc (.cells #[.int .i64 at_] 3)) (.cells #[.int .i64 bt] 3)
              rwa [World.size_alloc] at this
            rintro e w1 ⟨rfl, rfl⟩
            clear hown hzat hg hat
            go_wp2_with fail
            go_ret
            rw [HE.out.1, HE.out.2]
            refine ⟨rfl, ?_⟩
            rw [xor_u8]
            have hgs := HQ3.out g rfl
            have kp : Kp (fun b => ro b ≠ .sure (fp n)) (((w.alloc (.cells #[.int .i64 at_] 3)).alloc (.cells #[.int .i64 bt] 3)).drewN nq) ((((w.alloc (.cells #[.int .i64 at_] 3)).alloc (.cells #[.int .i64 bt] 3)).drewN nq).setCell ⟨g, at_, none⟩ (.int .u8 (((s.getD at_ 0) ^^^ UInt8.ofNat (2 ^ bt)).toNat : Int))).drew := ((Kp.refl _ _).setOut (fun h => h hgs) _).drew
            have hrow := own_kept (HOWN.out.stored at_ (.int .u8 (((s.getD at_ 0) ^^^ UInt8.ofNat (2 ^ bt)).toNat : Int))).1 ((Kp.refl All _).drew) (fun _ _ => trivial)
            have hD := Dk0.flipF (i := at_) (bit := bt) (H.out.kept (HK2.out.drewN nq) (fun _ _ => trivial)) HS.out ((HK2.out.drewN nq).heap HQ1.out trivial) HQ3.out (by
              rw [flip, u8s, List.map_set, HSL.out]
              exact hrow) kp
            exact Nx.of ⟨_, _, _, _, hD⟩ ((HK2.out.drewN nq).all.trans kp) (fun b hb => by rw [hb]; simp)
          · obtain ⟨BA, bc, rfl⟩ := own_shape H.out.bf.row
            obtain ⟨l, hl⟩ : ∃ l, D.B.length = l := ⟨_, rfl⟩
            have hnm := own_le H.out.bf.row
            rw [hl] at hnm c1
            have HL := hid hl
            clear hl
            have HE := hid (show spoErr D n at_ bt = 0 ∧ spoD D n at_ bt = { D with B := flipB n bt D.B (at_ - sl) } by rw [spoErr, spoD, HBO.out, HY.out]; exact ⟨if_neg HQ.out, (if_neg HQ.out).trans (by rw [if_neg (by rw [HSL.out]; omega), HSL.out]; rfl)⟩)
            go_enter Try.func32, Try.ntmps32
            go_wp2_with fail
            refine (may_any p m D _ _ _ (HK2.out.heap B1.out trivial)).mono ?_
            rintro e w1 ⟨rfl, rfl⟩
            rw [show mayErr D = 0 from by rw [mayErr, HBO.out]; rfl]
            go_wp2_with (at_lookup; go_loud (refine wpList_lookup_val strKey Try.underlying54 (H.out.map.all HK2.out) n (hz _) HV.out rfl _ _ rfl rfl rfl ?_))
            go_quiet ((go_at_call 41; refine (size_any f SA sl sc mo (by omega) (by omega) _ (by exact B2.out)).mono ?_; rintro e w1 ⟨rfl, q, rfl⟩; rw [HSZ.out]; exact ⟨rfl, _, World.drewN_drewN _ _ _⟩))
            go_wp2_with fail
            have hb1 : (((w.alloc (.cells #[.int .i64 at_] 3)).alloc (.cells #[.int .i64 bt] 3)).drewN nq).heap[w.heap.size]? = some (.cells #[.int .i64 at_] 3 (0, 0)) := blk_alloc (blk_new w _) _
            have hb2 : (((w.alloc (.cells #[.int .i64 at_] 3)).alloc (.cells #[.int .i64 bt] 3)).drewN nq).heap[w.heap.size + 1]? = some (.cells #[.int .i64 bt] 3 (0, 0)) := by
              have := blk_new (w.alloc (.cells #[.int .i64 at_] 3)) (.cells #[.int .i64 bt] 3)
              rwa [World.size_alloc] at this
            refine (turn_no w.heap.size (w.heap.size + 1) at_ bt sl sc SA _ hb1 (by omega) (by omega)).mono ?_
            rintro e w1 ⟨rfl, hw1⟩
            obtain ⟨r0, hr0⟩ : ∃ r0, at_ - sl = r0 := ⟨_, rfl⟩
            have hr0l : r0 ≤ 1000000000000 := by omega
            rw [hr0] at HE hw1
            have hk3 : Kp All w w1 := by rw [hw1]; exact (HK2.out.drewN nq).setNew (Nat.le_refl w.heap.size) _
            have hx1 : w1.heap[w.heap.size]? = some (.cells #[.int .i64 r0] 3 (0, 0)) := by rw [hw1, blk_set hb1]; rfl
            have hx2 : w1.heap[w.heap.size + 1]? = some (.cells #[.int .i64 bt] 3 (0, 0)) := by rw [hw1]; exact blk_far hb2 (by simp) _
            have HK3 := hid hk3; have HX1 := hid hx1; have HX2 := hid hx2
            have c1 := blk_cell (hk3.heap B1.out trivial)
            unfold dcs at c1
            rw [HL.out] at c1
            clear hr0 hw1 hk3 hx1 hx2 hb1 hb2 c2 B2
            go_wp2_with fail
            go_loopw [51] (fun i wr => ∃ (k r : Nat), k ≤ l ∧ i = .int .i64 k ∧ r ≤ 1000000000000 ∧ Hid (flipB n bt D.B r0 = D.B.take k ++ flipB n bt (D.B.drop k) r) ∧ Hid (wr.heap[w.heap.size]? = some (.cells #[.int .i64 r] 3 (0, 0))) ∧ Hid (wr.heap[w.heap.size + 1]? = some (.cells #[.int .i64 bt] 3 (0, 0))) ∧ Hid (Kp All w wr)) (fun i _ => l - (intOf i).toNat)
            case atStart => exact ⟨0, r0, Nat.zero_le _, rfl, hr0l, hid (by simp), HX1, HX2, HK3.out⟩
            case round =>
              obtain ⟨k, r, hk, rfl, hr, hfl, ha1, ha2, hkp⟩ := hrel
              by_cases hkl : k < l
              · have hb0 : decide ((k : Int) < (l : Int)) = true := decide_eq_true (by omega)
                obtain ⟨x, hx⟩ : ∃ x, D.B[k]? = some x := ⟨_, List.getElem?_eq_getElem (by rw [HL.out]; exact hkl)⟩
                obtain ⟨g, cap, A', c', e1, pBV, p1, p2, p3, p4, _⟩ := (H.out.kept hkp.out (fun _ _ => trivial)).bf.at hx
                rw [HL.out] at e1
                injection e1 with eA _ ec
                subst eA ec
                have i0 : (0 : Int) ≤ (k : Int) := by omega
                have i1 : (k : Int) < (l : Int) := by omega
                have hxl : x.2.length ≤ 1073741824 := by
                  have h1 := pend_take hx
                  have h2 := pend_take_le D.B (k + 1)
                  omega
                have HX := hid hx; have PBV := hid pBV; have P3 := hid p3; have P4 := hid p4
                obtain ⟨s', hs'⟩ := mem_keys (H.out.names x (List.mem_of_getElem? hx))
                have HS' := hid hs'
                clear hx pBV p3 p4 hs'
                obtain ⟨z, zb⟩ := x
                dsimp only at p1 p2 hxl
                obtain ⟨xl, hxl2⟩ : ∃ xl, zb.length = xl := ⟨_, rfl⟩
                have HXL := hid hxl2
                rw [hxl2] at p2 hxl
                clear hxl2
                obtain ⟨fz, hfz⟩ : ∃ fz, fp z = fz := ⟨_, rfl⟩
                rw [hfz] at p1
                have HFZ := hid hfz
                clear hfz
                have hbq1 : (wr.alloc (.cells #[.pointer (some ⟨fz, 0, none⟩), .slice A' xl c'] 67)).heap[w.heap.size]? = some (.cells #[.int .i64 r] 3 (0, 0)) := blk_alloc ha1.out _
                have hbq2 : (wr.alloc (.cells #[.pointer (some ⟨fz, 0, none⟩), .slice A' xl c'] 67)).heap[w.heap.size + 1]? = some (.cells #[.int .i64 bt] 3 (0, 0)) := blk_alloc ha2.out _
                have HBQ1 := hid hbq1; have HBQ2 := hid hbq2
                clear hbq1 hbq2
                by_cases hzn : z = n
                · obtain rfl : f = fz := by rw [← HF.out, ← HFZ.out, hzn]
                  have hsame := ptr_same f
                  have HZN := hid hzn
                  clear hzn
                  go_wp2_with fail
                  by_cases hrl : r < xl
                  · have hown := own_kept P3.out (Kp.al wr (.cells #[.pointer (some ⟨f, 0, none⟩), .slice A' xl c'] 67)) (fun _ _ => trivial)
                    rw [HXL.out] at hown
                    have hzat : (u8s zb)[r]? = some (.int .u8 (zb.getD r 0).toNat) := by
                      rw [u8s, List.getElem?_map, List.getElem?_eq_getElem (by rw [HXL.out]; exact hrl), List.getD_eq_getElem?_getD, List.getElem?_eq_getElem (by rw [HXL.out]; exact hrl)]; rfl
                    have HOWN := hid hown
                    rcases own_at hown with ⟨_, h0, _⟩ | ⟨g', gcap, gcur, eg, hg, _, hat⟩
                    · exact absurd h0 (by omega)
                    injection eg with eA _ ec
                    subst eA ec
                    refine (turn_yes w.heap.size (w.heap.size + 1) r bt xl c' g' (zb.getD r 0).toNat _ HBQ1.out HBQ2.out hrl (by omega) hbt (hat _ _ hzat) (hown.frozenAt _)).mono ?_
                    rintro e w2 ⟨rfl, rfl⟩
                    clear hown hzat hg hat
                    go_wp2_with fail
                    go_ret
                    rw [HE.out.1, HE.out.2]
                    refine ⟨rfl, ?_⟩
                    rw [xor_u8]
                    have kp : Kp (fun b => some b ≠ (Value.slice (some ⟨g', 0, none⟩) zb.length c').ownBlock) (wr.alloc (.cells #[.pointer (some ⟨f, 0, none⟩), .slice (some ⟨g', 0, none⟩) xl c'] 67)) ((wr.alloc (.cells #[.pointer (some ⟨f, 0, none⟩), .slice (some ⟨g', 0, none⟩) xl c'] 67)).setCell ⟨g', r, none⟩ (.int .u8 (((zb.getD r 0) ^^^ UInt8.ofNat (2 ^ bt)).toNat : Int))).drew := ((Kp.refl _ _).setOut (fun h => h rfl) _).drew
                    have hrow := own_kept (HOWN.out.stored r (.int .u8 (((zb.getD r 0) ^^^ UInt8.ofNat (2 ^ bt)).toNat : Int))).1 ((Kp.refl All _).drew) (fun _ _ => trivial)
                    have hD := Dk0.flipB (b' := flip zb r bt) (H.out.kept (hkp.out.alloc (.cells #[.pointer (some ⟨f, 0, none⟩), .slice (some ⟨g', 0, none⟩) xl c'] 67)) (fun _ _ => trivial)) PBV.out (flip_len _ _ _) (by
                      rw [flip, u8s, List.map_set, HXL.out]
                      exact hrow) kp
                    have hfe := flipB_at hfl.out (show D.B[k]? = some (n, zb) by rw [← HZN.out]; exact HX.out) (by rw [HXL.out]; exact hrl)
                    rw [hfe]
                    rw [HZN.out] at hD
                    refine Nx.of ⟨_, _, _, _, hD⟩ ((hkp.out.alloc _).all.trans kp) (fun b hb e => ?_)
                    have := P4.out b (by rw [HXL.out]; rw [HXL.out] at e; exact e.symm)
                    rw [hb] at this; cases this
                  · refine (turn_no w.heap.size (w.heap.size + 1) r bt xl c' A' _ HBQ1.out (by omega) (by omega)).mono ?_
                    rintro e w2 ⟨rfl, hw2⟩
                    have hk2 : Kp All w w2 := by rw [hw2]; exact (hkp.out.alloc _).setNew (Nat.le_refl w.heap.size) _
                    have hx1 : w2.heap[w.heap.size]? = some (.cells #[.int .i64 (r - xl : Nat)] 3 (0, 0)) := by rw [hw2, blk_set HBQ1.out]; rfl
                    have hx2 : w2.heap[w.heap.size + 1]? = some (.cells #[.int .i64 bt] 3 (0, 0)) := by rw [hw2]; exact blk_far HBQ2.out (by simp) _
                    have HK4 := hid hk2; have HX1' := hid hx1; have HX2' := hid hx2
                    clear hw2 hk2 hx1 hx2
                    go_wp2_with fail
                    refine ⟨⟨k + 1, r - xl, by omega, by go_num, by omega, ?_, HX1', HX2', HK4⟩, by simp [intOf]; omega⟩
                    have := flipB_past hfl.out (show D.B[k]? = some (n, zb) by rw [← HZN.out]; exact HX.out) (by rw [HXL.out]; exact hrl)
                    rw [HXL.out] at this
                    exact hid this
                · have hne : fz ≠ f := fun e => hzn (H.out.fl.inj (z, s') HS'.out (n, s) HS.out (by dsimp only; rw [HFZ.out, HF.out]; exact e))
                  obtain ⟨_, qx, _⟩ := H.out.fl.lie _ HS'.out
                  dsimp only at qx
                  rw [HFZ.out] at qx
                  have hbf1 : (wr.alloc (.cells #[.pointer (some ⟨fz, 0, none⟩), .slice A' xl c'] 67)).heap[fz]? = _ := (hkp.out.alloc _).heap qx trivial
                  have hbf2 : (wr.alloc (.cells #[.pointer (some ⟨fz, 0, none⟩), .slice A' xl c'] 67)).heap[f]? = _ := (hkp.out.alloc _).heap (by have := HQ1.out; rwa [HF.out] at this) trivial
                  have hoth := ptr_other hne hbf1 hbf2
                  have HZN := hid hzn
                  clear hbf1 hbf2 qx hzn
                  go_wp2_with fail
                  refine ⟨⟨k + 1, r, by omega, by go_num, hr, hid (flipB_other hfl.out HX.out HZN.out), HBQ1, HBQ2, hid (hkp.out.alloc _)⟩, by simp [intOf]; omega⟩
              · have hb0 : decide ((k : Int) < (l : Int)) = false := decide_eq_false (by omega)
                obtain rfl : k = l := by omega
                go_wp2_with fail
                go_ret
                rw [HE.out.1, HE.out.2]
                have h := hfl.out
                rw [List.drop_eq_nil_of_le (by rw [HL.out]; exact Nat.le_refl _), List.take_of_length_le (by rw [HL.out]; exact Nat.le_refl _), flipB, List.append_nil] at h
                rw [h]
                exact ⟨rfl, HD.out.nx hkp.out⟩
  · go_enter Try.func32, Try.ntmps32
    go_wp2_with fail
    refine (may_any p m D _ bv _ (HK2.out.heap B1.out trivial)).mono ?_
    rintro e w1 ⟨rfl, rfl⟩
    rw [show mayErr D = 9 from by rw [mayErr, HBO.out]; rfl]
    go_wp2_with fail
    go_ret
    exact ⟨by rw [spoErr, HBO.out]; rfl, by rw [spoD, HBO.out]; exact HD.out.nx HK2.out⟩
end Go.Proofs.Ytdlbccjimdghkaa

namespace Go.Proofs.Ytdlbccjimdghkaa
open Go.RowKit
set_option linter.unusedVariables false
set_option linter.unusedSimpArgs false
theorem conv_sl {w : World} {A : Option Addr} {c : Nat} {xs : By} (h : Sl A xs.length c 1 (u8s xs) w) : (convert 32 9 (.slice A xs.length c)).run Try.prog w = .ok (.string ⟨xs.toArray⟩) w := by
  obtain ⟨h1, h2, h3⟩ := h
  cases xs with
  | nil =>
    cases A with
    | none => exact run_convert_bytes_nil w _ _ Try.underlying32 Try.underlying5 0 c _ Try.underlying9
    | some a => exact run_convert_bytes_back w _ _ _ a c [] Try.underlying32 Try.underlying5 Try.underlying9 (fun j hj => absurd hj (by simp))
  | cons x xs =>
    obtain ⟨b, o, rfl, hr⟩ := h3 (by simp)
    refine run_convert_bytes_back w _ _ _ _ c (x :: xs) Try.underlying32 Try.underlying5 Try.underlying9 (fun j hj => ?_)
    rw [add_lit0]
    refine hr j _ ?_
    simp only [u8s, List.getElem?_map, List.getElem?_eq_getElem hj, Option.map_some]
/-- the greater memory: k bytes are handed over -/
def lcells (b : By) (k : Nat) : List Value := .int .u8 165 :: (u8s (b.take k) ++ List.replicate (b.length - k) (.int .u8 0)) ++ [.int .u8 90]
theorem lcells_set {b : By} {k : Nat} (hk : k < b.length) : (lcells b k).set (k + 1) (.int .u8 (b.getD k 0).toNat) = lcells b (k + 1) := by
  have hl : (u8s (b.take k)).length = k := by rw [u8s_len, List.length_take]; omega
  unfold lcells
  rw [List.cons_append, List.set_cons_succ, List.cons_append, List.append_assoc, List.append_assoc, List.set_append_right _ _ (by omega), hl, Nat.sub_self, List.take_add_one, List.getElem?_eq_getElem hk, u8s_append]
  have : b.length - k = (b.length - (k + 1)) + 1 := by omega
  rw [this, List.replicate_succ, List.cons_append, List.set_cons_zero, List.append_assoc, List.getD_eq_getElem?_getD, List.getElem?_eq_getElem hk]
  rfl
theorem mk_u8 (n : Nat) (hn : n ≤ 1000000) (w : World) :
    (Instr.makeSlice 32 (.int .i64 (n : Int)) (.int .i64 (n : Int))).run Try.prog w = .ok (.slice (some ⟨w.heap.size, 0, none⟩) n n) (w.alloc (.cells (List.replicate n (.int .u8 0)).toArray 5)) := by
  obtain ⟨i, hi, hz, hs, hb⟩ := info_parts el8.info
  have := run_make (P := Try.prog) w 32 5 i (.int .u8 0) el8.sl hi hz .i64 .i64 (n : Int) (n : Int) (by omega) (by omega) (by rw [hb]; omega) (by omega)
  have e : madeCells (Value.cells (.int .u8 0)) (n * 1) = (List.replicate n (Value.int .u8 0)).toArray := by
    rw [Nat.mul_one, ← toList_madeCells_one, Array.toArray_toList]; rfl
  rw [this, hs, Int.toNat_natCast, e]
def Lent (b : By) (n : Nat) (w : World) (e : Ending) (w' : World) : Prop := e = .returned (.tuple #[.slice (some ⟨w.heap.size, 0, none⟩) (n + 2) (n + 2), .slice (some ⟨w.heap.size, 1, none⟩) n (n + 1)]) ∧ w'.heap[w.heap.size]? = some (.cells (lcells b b.length).toArray 5 (0, 0)) ∧ Kp All w w'
set_option maxRecDepth 100000 in
set_option maxHeartbeats 1000000 in
theorem lend_any (A : Option Addr) (n c : Nat) (b : By) (hn : b.length = n) (hn9 : n ≤ 100000) (w : World) (h : Foot All (Sl A n c 1 (u8s b)) w) :
    Calls Try.prog 49 #[.slice A n c] w (Lent b n w) := by
  have H := hid h; have HN := hid hn
  clear h hn
  have hmk := mk_u8 (n + 2) (by omega) w
  rw [show ((n + 2 : Nat) : Int) = (n : Int) + 2 from by omega] at hmk
  have hw2 : IntKind.i64.wrap ((n : Int) + 2) = ((n + 2 : Nat) : Int) := by rw [IntWalk.i64_in _ (by omega)]; omega
  go_enter Try.func49, Try.ntmps49
  go_wp2_with fail
  obtain ⟨w3, hw3⟩ : ∃ w3, w3 = w.alloc (.cells (((Array.replicate (n + 2) (Value.int .u8 0)).setIfInBounds 0 (.int .u8 165)).setIfInBounds (n + 1) (.int .u8 90)) 5) := ⟨_, rfl⟩
  have hb3 : w3.heap[w.heap.size]? = some (.cells (lcells b 0).toArray 5 (0, 0)) := by
    rw [hw3, blk_new w _]
    have : (((Array.replicate (n + 2) (Value.int .u8 0)).setIfInBounds 0 (.int .u8 165)).setIfInBounds (n + 1) (.int .u8 90)) = (lcells b 0).toArray := by
      unfold lcells
      rw [← List.toArray_replicate, List.setIfInBounds_toArray, List.setIfInBounds_toArray, List.replicate_succ, List.set_cons_zero, List.set_cons_succ, HN.out, Nat.sub_zero, List.take_zero, List.replicate_succ', List.set_append_right _ _ (by simp)]
      simp [u8s]
    rw [this]
  have hk3 : Kp All w w3 := by rw [hw3]; exact Kp.al _ _
  have HB3 := hid hb3; have HK3 := hid hk3
  rw [← hw3]
  clear hb3 hk3 hw3 hmk
  go_loopw [20] (fun i wr => ∃ k : Nat, k ≤ n ∧ i = .int .i64 k ∧ Hid (wr.heap[w.heap.size]? = some (.cells (lcells b k).toArray 5 (0, 0))) ∧ Hid (Kp All w wr)) (fun i _ => n - (intOf i).toNat)
  case atStart => exact ⟨0, Nat.zero_le _, rfl, HB3, HK3⟩
  case round =>
    obtain ⟨k, hk, rfl, hbk, hkp⟩ := hrel
    by_cases hlt : k < n
    · have hb0 : decide ((k : Int) < (n : Int)) = true := decide_eq_true (by omega)
      have i0 : (0 : Int) ≤ (k : Int) := by omega
      have i1 : (k : Int) < (n : Int) := by omega
      obtain ⟨b1, o1, eA, hr⟩ := (H.out.step hkp.out).now.2.2 (by omega)
      subst eA
      have hc := hr k (.int .u8 (b.getD k 0).toNat) (by rw [u8s, List.getElem?_map, List.getElem?_eq_getElem (by rw [HN.out]; exact hlt), List.getD_eq_getElem?_getD, List.getElem?_eq_getElem (by rw [HN.out]; exact hlt)]; rfl)
      have hff := blk_free hbk.out
      have hcw : wr.cell? ⟨w.heap.size, k + 1, none⟩ = some (.int .u8 0) := by
        rw [blk_cell hbk.out, List.getElem?_toArray, lcells, List.cons_append, List.getElem?_cons_succ, List.append_assoc, List.getElem?_append_right (by simp; omega)]
        rw [u8s_len, List.length_take, HN.out, Nat.min_eq_left hk, Nat.sub_self, List.getElem?_append_left (by simp; omega), List.getElem?_replicate, if_pos (by omega)]
      clear hr
      go_wp2_with fail
      rw [← List.getD_eq_getElem?_getD]
      refine ⟨⟨k + 1, by omega, by go_num, ?_, hid (hkp.out.setNew (Nat.le_refl _) _)⟩, by simp [intOf]; omega⟩
      rw [blk_set hbk.out, List.setIfInBounds_toArray, lcells_set (by rw [HN.out]; exact hlt)]
      exact hid rfl
    · have hb0 : decide ((k : Int) < (n : Int)) = false := decide_eq_false (by omega)
      obtain rfl : k = n := by omega
      go_wp2_with fail
      go_quiet (fail)
      go_wp2_with fail
      go_ret2
      refine ⟨rfl, ?_, hkp.out.drewN _⟩
      rw [HN.out]
      exact hbk.out
theorem lcells_rd {b : By} {g n : Nat} {w : World} {fz : Nat × Nat} (hn : b.length = n) (h : w.heap[g]? = some (.cells (lcells b n).toArray 5 fz)) : w.cell? ⟨g, 0, none⟩ = some (.int .u8 165) ∧ w.cell? ⟨g, n + 1, none⟩ = some (.int .u8 90) ∧ Sl (some ⟨g, 1, none⟩) n (n + 1) 1 (u8s b) w := by
  have e : lcells b n = .int .u8 165 :: (u8s b ++ [.int .u8 90]) := by
    unfold lcells
    rw [← hn, Nat.sub_self, List.take_length]
    simp
  rw [e] at h
  refine ⟨by rw [blk_cell h]; rfl, ?_, by rw [u8s_len]; omega, by omega, fun _ => ⟨g, 1, rfl, fun j u hj => ?_⟩⟩
  · rw [blk_cell h, List.getElem?_toArray, List.getElem?_cons_succ, List.getElem?_append_right (by rw [u8s_len]; omega), u8s_len, hn, Nat.sub_self]; rfl
  · rw [blk_cell h, List.getElem?_toArray, Nat.add_comm 1 j, List.getElem?_cons_succ, List.getElem?_append_left (List.getElem?_eq_some_iff.1 hj).1]
    exact hj
set_option maxRecDepth 100000 in
set_option maxHeartbeats 1000000 in
theorem kept_any (A : Option Addr) (n c g : Nat) (b : By) (hn : b.length = n) (hn9 : n ≤ 100000) (w : World) (h : Sl A n c 1 (u8s b) w) (hg : w.heap[g]? = some (.cells (lcells b n).toArray 5 (0, 0))) :
    Calls Try.prog 51 #[.slice (some ⟨g, 0, none⟩) (n + 2) (n + 2), .slice A n c] w fun e w' => e = .returned (.bool true) ∧ Kp All w w' := by
  obtain ⟨c1, c2, h2⟩ := lcells_rd hn hg
  subst hn
  have e1 := fun q => conv_sl (w := w.drewN q) (c := c) h
  have e2 := fun q => conv_sl (w := w.drewN q) (c := b.length + 1) h2
  have hw2 : IntKind.i64.wrap ((b.length : Int) + 2) = (b.length : Int) + 2 := by rw [IntWalk.i64_in _ (by omega)]
  have hw1 : IntKind.i64.wrap ((b.length : Int) + 1) = (b.length : Int) + 1 := by rw [IntWalk.i64_in _ (by omega)]
  obtain ⟨n, hn⟩ : ∃ n, b.length = n := ⟨_, rfl⟩
  simp only [hn] at c2 e1 e2 hw1 hw2 hn9 ⊢
  have i0 : (0 : Int) < (n : Int) + 2 := by omega
  have i1 : (n : Int) + 1 < (n : Int) + 2 := by omega
  have i2 : (0 : Int) ≤ (n : Int) + 1 := by omega
  have i3 : (1 : Int) ≤ (n : Int) + 1 := by omega
  have i4 : (n : Int) + 1 ≤ (n : Int) + 2 := by omega
  clear h h2 hg hn
  go_enter Try.func51, Try.ntmps51
  go_wp2_with fail
  go_quiet (fail)
  go_wp2_with fail
  go_ret
  exact ⟨rfl, (Kp.refl _ _).drewN _⟩
set_option maxRecDepth 100000 in
theorem same_eq (A B : Option Addr) (n c d : Nat) (xs : By) (hn : xs.length = n) (w : World) (h1 : Sl A n c 1 (u8s xs) w) (h2 : Sl B n d 1 (u8s xs) w) :
    Calls Try.prog 56 #[.slice A n c, .slice B n d] w fun e w' => e = .returned (.bool true) ∧ w = w' := by
  subst hn
  have e1 := conv_sl h1
  have e2 := conv_sl h2
  clear h1 h2
  go_enter Try.func56, Try.ntmps56
  go_wp2
  go_ret
  exact ⟨by simp, rfl⟩
set_option maxRecDepth 100000 in
theorem list_off (p : Nat) (ro : Nat → Role) (D : DS) (hoff : D.off = true) (w : World) (h : Dk w p ro D) :
    Calls Try.prog 25 #[.pointer (some ⟨p, 0, none⟩)] w fun e w' => e = .returned (.slice none 0 0) ∧ w = w' := by
  obtain ⟨m, fp, bv, BV, h⟩ := h
  have H := hid h
  have c1 := blk_cell h.cell
  unfold dcs at c1
  have HOF := hid hoff
  rw [hoff] at c1
  clear h hoff
  go_enter Try.func25, Try.ntmps25
  go_wp2_with fail
  refine (on_any p m D _ bv w H.out.cell).mono ?_
  rw [HOF.out]
  rintro e w1 ⟨rfl, rfl⟩
  go_wp2_with fail
  go_ret
  exact ⟨rfl, rfl⟩
end Go.Proofs.Ytdlbccjimdghkaa
