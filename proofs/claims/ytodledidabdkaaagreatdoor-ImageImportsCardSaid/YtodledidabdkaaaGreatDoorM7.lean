/- A loop over an iterator that itself runs Go code: what a round keeps, the loop's law, append within a round; over any program. The map's Keys walked. No condition but that the map lies, or is none. A walk's New and Next walked. No condition but that the map lies, and that the keys ahead are the map's. A map's pairs as a sequence: what it hands to the collecting loop: walked once. How texts compare. No condition. -/
import Derived.Test.YtodledidabdkaaaGreatDoorM6
import Derived.RangeFuncNested
import Derived.RangeFuncBound
import Derived.Maps.AppendAt
import Derived.Test.YtodledidabdkaaaGreatDoorM4
import Derived.Sort.Walk0
set_option linter.unusedVariables false
set_option linter.unusedSimpArgs false
namespace Go.Proofs.YtodledidabdkaaaGreatDoor
open Go.RowKit Go.Shelf
set_option linter.unusedVariables false
set_option linter.unusedSimpArgs false
attribute [local go_sem] Oper.semAt_some
/-! ### What a round of the collecting loop keeps -/
/-- The collecting loop's own blocks: its box B, and the row that the box holds. -/
def Pv (B : Nat) (W : World) (b : Nat) : Prop := b = B ∨ ∃ (A : Addr) (n c : Nat) (t : TypeId) (fz : Nat × Nat), W.heap[B]? = some (.cells #[.slice (some A) n c] t fz) ∧ A.block = b
structure Rk (B : Nat) (W W' : World) : Prop where
  os : W'.os = W.os
  tape : W'.tape = W.tape
  output : W'.output = W.output
  size : W.heap.size ≤ W'.heap.size
  same : ∀ b o, W.heap[b]? = some o → o.isCells = true → ¬ Pv B W b → W'.heap[b]? = some o
  priv : ∀ b, b < W.heap.size → Pv B W' b → Pv B W b
theorem Rk.refl (B : Nat) (W : World) : Rk B W W := ⟨rfl, rfl, rfl, Nat.le_refl _, fun _ _ h _ _ => h, fun _ _ h => h⟩
theorem Rk.trans {B : Nat} {X Y Z : World} (h : Rk B X Y) (k : Rk B Y Z) : Rk B X Z :=
  ⟨k.os.trans h.os, k.tape.trans h.tape, k.output.trans h.output, Nat.le_trans h.size k.size,
    fun b o hb hc hp => k.same b o (h.same b o hb hc hp) hc (fun e => hp (h.priv b (Array.getElem?_eq_some_iff.1 hb).1 e)),
    fun b hb e => h.priv b hb (k.priv b (Nat.lt_of_lt_of_le hb h.size) e)⟩
theorem Pv.same {B : Nat} {W W' : World} (h : W'.heap[B]? = W.heap[B]?) (b : Nat) : Pv B W' b ↔ Pv B W b := by
  unfold Pv
  rw [h]
theorem Rk.of_kp {B : Nat} {W W' : World} (hB : B < W.heap.size) (k : Kp All W W') : Rk B W W' :=
  ⟨k.os, k.tape, k.output, k.size, fun b o hb _ _ => (k.block b (Array.getElem?_eq_some_iff.1 hb).1 trivial).trans hb, fun b _ e => (Pv.same (k.block B hB trivial) b).1 e⟩
theorem Rk.putObj {B : Nat} {W : World} {l : Nat} {o o' : Obj} (hB : B < l) (h : W.heap[l]? = some o) (hc : o.isCells = false) : Rk B W (W.putObj l o') := by
  refine ⟨rfl, rfl, rfl, ?_, fun b u hb hu hp => ?_, fun b _ e => ?_⟩
  · exact (grownBy_putObj' W l o').size
  · have : b ≠ l := by rintro rfl; rw [h] at hb; injection hb with hb; subst hb; rw [hc] at hu; cases hu
    rw [World.putObj_heap_other this]; exact hb
  · exact (Pv.same (by rw [World.putObj_heap_other (by omega)]) b).1 e
def on (R : Act → World → Prop) : Exit → Act → World → Prop := fun e a w => match e with | .normal => R a w | _ => False
theorem grown_kp {w w' : World} (k : Kp All w w') {row : Option Nat} : w.grownBy w' row := ⟨k.os, k.tape, k.output, k.size, fun b hb _ => k.block b hb trivial⟩
theorem kf_kp {B : Nat} {w w' : World} (k : Kp All w w') : KeepsFrom B w w' := ⟨k.size, fun i o _ hi _ => (k.block i (Array.getElem?_eq_some_iff.1 hi).1 trivial).trans hi⟩
theorem KeepsFrom.of_grownBy' {B j : Nat} {W W' : World} (hg : W.grownBy W' (some j)) (hj : j < B) : KeepsFrom B W W' := KeepsFrom.of_grownBy hg (fun i e => by cases e; exact hj)
theorem range_own {α : Type} {P : Program} {n : Nat} {g : Operand} {ps : Array Tmp} {assign body : Code} {Q : Exit → Act → World → Prop} {a : Act} {w : World}
    (hn : 1 ≤ n) {gf : Nat} {lb : Array Value} (hg : a.eval g = .func (.func gf) #[] lb) (eg : ∀ args w, (callFunc gf args).run P w = .ok (.enter gf args) w)
    {encs : α → Array Value} (hps : ∀ x, (encs x).size = ps.size) (B N : Nat) (hB : B < w.heap.size) (Out : List α → World → World → Prop) (hOut : ∀ xs W0 X Y, Out xs W0 X → Rk B X Y → Out xs W0 Y)
    (hseq : ∀ (l : Nat) (J : List α → World → Prop) (W : World), Kp All w W → OwnFrom W.heap.size J → (∀ pre W', J pre W' → ∀ b, Pv B W' b → b < W'.heap.size) →
      (∀ (m : Nat) pre x W1, J pre W1 → pre.length < N → YieldAt Fence.wide m P l (encs x) W1 fun e W' => e = .returned (.bool true) ∧ J (pre ++ [x]) W' ∧ Rk B W1 W' ∧ KeepsFrom W.heap.size W1 W') → J [] W →
      CallsIn Fence.wide (n - 1) P gf (#[.func (.yield l) #[] #[]] ++ lb) W fun e W' => (∃ v, e = .returned v) ∧ ∃ xs, J xs W' ∧ Out xs W W')
    (I : List α → World → Prop) (hI : OwnFrom w.heap.size I) (hIp : ∀ pre W', I pre W' → ∀ b, Pv B W' b → b < W'.heap.size) (h0 : I [] w) (a₁ : α → Act)
    (hassign : ∀ (l k : Nat) (x : α) (W : World) (K : Act → World → Prop), K (a₁ x) W →
      assign.wpIn (Fence.wide.inRound l) k P (Exit.then K (fun _ _ _ => False)) { tmps := (ps.zip (encs x)).foldl (fun t (p, v) => t.setIfInBounds p v) a.tmps, defers := [] } W)
    (hbody : ∀ (l k : Nat) (pre : List α) (x : α) (W : World), I pre W → pre.length < N → body.wpIn (Fence.wide.inRound l) k P (on fun _ W' => KeepsFrom w.heap.size W W' ∧ Rk B W W' ∧ I (pre ++ [x]) W') (a₁ x) W)
    (hdone : ∀ (D : Nat) (xs : List α) (W0 W : World), w.heap.size ≤ D → Kp All w W0 → I xs W → Out xs W0 W → W.heap[D]? = some (.deferred (some [])) → Q .normal { a with defers := { target := .collected D, args := #[] } :: a.defers } W) :
    (Code.rangeFunc g ps assign body).wpIn Fence.wide n P Q a w := by
  refine wpIn_rangeFunc fun fn hfn => ?_
  obtain ⟨r0, hr0⟩ : ∃ r0 : LoopState → Loop, r0 = fun st => { state := st, pending := none, fn, tmps := a.tmps, params := ps, assign, body, defers := w.heap.size } := ⟨_, rfl⟩
  obtain ⟨V, hV⟩ : ∃ V, (w.alloc (.deferred (some []))).alloc (.loop (r0 .ready)) = V := ⟨_, rfl⟩
  have kV : Kp All w V := hV ▸ (Kp.al _ _).trans (Kp.al _ _)
  have zV : V.heap.size = w.heap.size + 2 := by rw [← hV]; simp
  have rec0 : V.heap[w.heap.size + 1]? = some (.loop (r0 .ready)) := by
    rw [← hV]
    have := World.alloc_heap_new (w.alloc (.deferred (some []))) (.loop (r0 .ready))
    rwa [World.size_alloc] at this
  have def0 : V.heap[w.heap.size]? = some (.deferred (some [])) := by
    rw [← hV]
    exact (Below.heap_alloc _ _ _ (by simp)).trans (World.alloc_heap_new w _)
  refine ⟨w.heap.size + 1, [{ target := .collected w.heap.size, args := #[] }], V, { target := .fn (.func gf) lb, args := #[.func (.yield (w.heap.size + 1)) #[] #[]] }, V, gf, #[.func (.yield (w.heap.size + 1)) #[] #[]] ++ lb, V, ?_, ?_, ?_, ?_, fun _ => hn, ?_⟩
  · rw [← hV, hr0]
    exact run_enterLoop_outer _ _ _ _ _
  · simp only [resolve, hg]
    simp [go_sem]
  · intro _ _; trivial
  · simp [invoke, go_sem, eg]
  -- the loop's books: the record stands ready, the block of deferred calls empty
  refine (hseq (w.heap.size + 1) (fun pre W => I pre W ∧ W.heap[w.heap.size + 1]? = some (.loop (r0 .ready)) ∧ W.heap[w.heap.size]? = some (.deferred (some []))) V kV ?_ (fun pre W h => hIp pre W h.1) ?_ ⟨hI _ w V none h0 (grown_kp kV) (fun r e => by cases e), rec0, def0⟩).mono ?_
  · intro pre X Y row h hgr hr
    refine ⟨hI pre X Y row h.1 hgr (fun r e => ⟨by have := (hr r e).1; omega, (hr r e).2⟩), ?_, ?_⟩
    · exact (hgr.block _ (Array.getElem?_eq_some_iff.1 h.2.1).1 (fun e => by have := (hr _ e.symm).1; omega)).trans h.2.1
    · exact (hgr.block _ (Array.getElem?_eq_some_iff.1 h.2.2).1 (fun e => by have := (hr _ e.symm).1; omega)).trans h.2.2
  · -- a round
    rintro m pre x W ⟨hi, hl, hd⟩ hlen
    have hy := run_yield (P := P) (args := encs x) hl (by rw [hr0]; exact hps x)
    rw [hr0] at hy
    refine ⟨fn, _, assign, body, hy, roundIn_of_wpIn hfn (hassign _ m x W _ ?_)⟩
    have hlt := (Array.getElem?_eq_some_iff.1 hl).1
    have hb1 := run_beginRound (P := P) hl (by rw [hr0])
    refine ⟨_, hb1, ?_⟩
    obtain ⟨X, hX⟩ : ∃ X, W.putObj (w.heap.size + 1) (.loop { r0 .ready with state := .busy }) = X := ⟨_, rfl⟩
    rw [hX]
    have lX : X.heap[w.heap.size + 1]? = some (.loop { r0 .ready with state := .busy }) := by rw [← hX]; exact World.putObj_heap_same hlt
    have dX : X.heap[w.heap.size]? = some (.deferred (some [])) := by rw [← hX]; exact (World.putObj_heap_other (by omega)).trans hd
    have iX : I pre X := by rw [← hX]; exact hI.putObj _ hi (by omega) hl rfl
    have rX : Rk B W X := by rw [← hX]; exact Rk.putObj (by omega) hl rfl
    have fX : KeepsFrom V.heap.size W X := by rw [← hX]; exact KeepsFrom.of_grownBy' (grownBy_putObj' W _ _) (by omega)
    refine wpIn_mono (hbody _ m pre x X iX hlen) ?_
    intro e a3 Y hY
    cases e
    case normal =>
      obtain ⟨kY, rY, iY⟩ := hY
      have lY := kY.same _ _ (by omega) lX rfl
      have dY := kY.same _ _ (Nat.le_refl _) dX rfl
      have hlt2 := (Array.getElem?_eq_some_iff.1 lY).1
      have hend := run_endRound (P := P) none lY
      refine ⟨_, _, hend, rfl, ⟨hI.putObj _ iY (by omega) lY rfl, ?_, (World.putObj_heap_other (by omega)).trans dY⟩, rX.trans (rY.trans (Rk.putObj (by omega) lY rfl)), ?_⟩
      · rw [World.putObj_heap_same hlt2, hr0]; rfl
      · exact fX.trans ((⟨kY.size, fun k o hk ho hc => kY.same k o (by omega) ho hc⟩ : KeepsFrom V.heap.size X Y).trans (KeepsFrom.of_grownBy' (grownBy_putObj' Y _ _) (by omega)))
    all_goals exact hY.elim
  · -- behind the iterator
    rintro e W ⟨⟨v, rfl⟩, xs, ⟨hi, hl, hd⟩, ho⟩
    have hend := run_endLoop (P := P) hl (by rw [hr0]; simp)
    have hp : (r0 .ready).pending = none := by rw [hr0]
    rw [hp] at hend
    exact ⟨none, _, hend, hdone _ xs V _ (Nat.le_refl _) kV (hI.putObj _ hi (by omega) hl rfl) (hOut _ _ _ _ ho (Rk.putObj (by omega) hl rfl)) ((World.putObj_heap_other (by omega)).trans hd)⟩
/-- What holds goes by none but the loop's own blocks, and by those below base. -/
def OwnX {β : Type} (B base : Nat) (J : β → World → Prop) : Prop := ∀ (s : β) (X Y : World) (row : Option Nat), J s X → X.grownBy Y row → (∀ r, row = some r → base ≤ r ∧ ∃ o : Obj, X.heap[r]? = some o ∧ (o.isCells = false ∨ ¬ Pv B X r)) → J s Y
theorem OwnX.putObj {β : Type} {B base : Nat} {J : β → World → Prop} (hJ : OwnX B base J) {s : β} {W : World} {l : Nat} {o o' : Obj} (h : J s W) (hl : base ≤ l) (ho : W.heap[l]? = some o) (hc : o.isCells = false) : J s (W.putObj l o') :=
  hJ s W _ (some l) h (grownBy_putObj' W l o') (fun r e => by cases e; exact ⟨hl, o, ho, .inl hc⟩)
theorem range_own2 {α : Type} {P : Program} {n : Nat} {g : Operand} {ps : Array Tmp} {assign body : Code} {Q : Exit → Act → World → Prop} {a : Act} {w : World}
    (hn : 1 ≤ n) {gf : Nat} {lb : Array Value} (hg : a.eval g = .func (.func gf) #[] lb) (eg : ∀ args w, (callFunc gf args).run P w = .ok (.enter gf args) w)
    {encs : α → Array Value} (hps : ∀ x, (encs x).size = ps.size) (B N : Nat) (hB : B < w.heap.size) (Out : List α → World → World → Prop) (hOut : ∀ xs W0 X Y, Out xs W0 X → Rk B X Y → Out xs W0 Y)
    (hseq : ∀ (l : Nat) (J : List α → World → Prop) (W : World), Kp All w W → OwnX B W.heap.size J → (∀ pre W', J pre W' → ∀ b, Pv B W' b → b < W'.heap.size) →
      (∀ (m : Nat) pre x W1, J pre W1 → pre.length < N → YieldAt Fence.wide m P l (encs x) W1 fun e W' => e = .returned (.bool true) ∧ J (pre ++ [x]) W' ∧ Rk B W1 W' ∧ KeepsFrom W.heap.size W1 W') → J [] W →
      CallsIn Fence.wide (n - 1) P gf (#[.func (.yield l) #[] #[]] ++ lb) W fun e W' => (∃ v, e = .returned v) ∧ ∃ xs, J xs W' ∧ Out xs W W')
    (I : List α → World → Prop) (hI : OwnX B w.heap.size I) (hIp : ∀ pre W', I pre W' → ∀ b, Pv B W' b → b < W'.heap.size) (h0 : I [] w) (a₁ : α → Act)
    (hassign : ∀ (l k : Nat) (x : α) (W : World) (K : Act → World → Prop), K (a₁ x) W →
      assign.wpIn (Fence.wide.inRound l) k P (Exit.then K (fun _ _ _ => False)) { tmps := (ps.zip (encs x)).foldl (fun t (p, v) => t.setIfInBounds p v) a.tmps, defers := [] } W)
    (hbody : ∀ (l k : Nat) (pre : List α) (x : α) (W : World), I pre W → pre.length < N → body.wpIn (Fence.wide.inRound l) k P (on fun _ W' => KeepsFrom w.heap.size W W' ∧ Rk B W W' ∧ I (pre ++ [x]) W') (a₁ x) W)
    (hdone : ∀ (D : Nat) (xs : List α) (W0 W : World), w.heap.size ≤ D → Kp All w W0 → I xs W → Out xs W0 W → W.heap[D]? = some (.deferred (some [])) → Q .normal { a with defers := { target := .collected D, args := #[] } :: a.defers } W) :
    (Code.rangeFunc g ps assign body).wpIn Fence.wide n P Q a w := by
  refine wpIn_rangeFunc fun fn hfn => ?_
  obtain ⟨r0, hr0⟩ : ∃ r0 : LoopState → Loop, r0 = fun st => { state := st, pending := none, fn, tmps := a.tmps, params := ps, assign, body, defers := w.heap.size } := ⟨_, rfl⟩
  obtain ⟨V, hV⟩ : ∃ V, (w.alloc (.deferred (some []))).alloc (.loop (r0 .ready)) = V := ⟨_, rfl⟩
  have kV : Kp All w V := hV ▸ (Kp.al _ _).trans (Kp.al _ _)
  have zV : V.heap.size = w.heap.size + 2 := by rw [← hV]; simp
  have rec0 : V.heap[w.heap.size + 1]? = some (.loop (r0 .ready)) := by
    rw [← hV]
    have := World.alloc_heap_new (w.alloc (.deferred (some []))) (.loop (r0 .ready))
    rwa [World.size_alloc] at this
  have def0 : V.heap[w.heap.size]? = some (.deferred (some [])) := by
    rw [← hV]
    exact (Below.heap_alloc _ _ _ (by simp)).trans (World.alloc_heap_new w _)
  refine ⟨w.heap.size + 1, [{ target := .collected w.heap.size, args := #[] }], V, { target := .fn (.func gf) lb, args := #[.func (.yield (w.heap.size + 1)) #[] #[]] }, V, gf, #[.func (.yield (w.heap.size + 1)) #[] #[]] ++ lb, V, ?_, ?_, ?_, ?_, fun _ => hn, ?_⟩
  · rw [← hV, hr0]
    exact run_enterLoop_outer _ _ _ _ _
  · simp only [resolve, hg]
    simp [go_sem]
  · intro _ _; trivial
  · simp [invoke, go_sem, eg]
  -- the loop's books: the record stands ready, the block of deferred calls empty
  refine (hseq (w.heap.size + 1) (fun pre W => I pre W ∧ W.heap[w.heap.size + 1]? = some (.loop (r0 .ready)) ∧ W.heap[w.heap.size]? = some (.deferred (some []))) V kV ?_ (fun pre W h => hIp pre W h.1) ?_ ⟨hI _ w V none h0 (grown_kp kV) (fun r e => by cases e), rec0, def0⟩).mono ?_
  · intro pre X Y row h hgr hr
    refine ⟨hI pre X Y row h.1 hgr (fun r e => ⟨by have := (hr r e).1; omega, (hr r e).2⟩), ?_, ?_⟩
    · exact (hgr.block _ (Array.getElem?_eq_some_iff.1 h.2.1).1 (fun e => by have := (hr _ e.symm).1; omega)).trans h.2.1
    · exact (hgr.block _ (Array.getElem?_eq_some_iff.1 h.2.2).1 (fun e => by have := (hr _ e.symm).1; omega)).trans h.2.2
  · -- a round
    rintro m pre x W ⟨hi, hl, hd⟩ hlen
    have hy := run_yield (P := P) (args := encs x) hl (by rw [hr0]; exact hps x)
    rw [hr0] at hy
    refine ⟨fn, _, assign, body, hy, roundIn_of_wpIn hfn (hassign _ m x W _ ?_)⟩
    have hlt := (Array.getElem?_eq_some_iff.1 hl).1
    have hb1 := run_beginRound (P := P) hl (by rw [hr0])
    refine ⟨_, hb1, ?_⟩
    obtain ⟨X, hX⟩ : ∃ X, W.putObj (w.heap.size + 1) (.loop { r0 .ready with state := .busy }) = X := ⟨_, rfl⟩
    rw [hX]
    have lX : X.heap[w.heap.size + 1]? = some (.loop { r0 .ready with state := .busy }) := by rw [← hX]; exact World.putObj_heap_same hlt
    have dX : X.heap[w.heap.size]? = some (.deferred (some [])) := by rw [← hX]; exact (World.putObj_heap_other (by omega)).trans hd
    have iX : I pre X := by rw [← hX]; exact hI.putObj hi (by omega) hl rfl
    have rX : Rk B W X := by rw [← hX]; exact Rk.putObj (by omega) hl rfl
    have fX : KeepsFrom V.heap.size W X := by rw [← hX]; exact KeepsFrom.of_grownBy' (grownBy_putObj' W _ _) (by omega)
    refine wpIn_mono (hbody _ m pre x X iX hlen) ?_
    intro e a3 Y hY
    cases e
    case normal =>
      obtain ⟨kY, rY, iY⟩ := hY
      have lY := kY.same _ _ (by omega) lX rfl
      have dY := kY.same _ _ (Nat.le_refl _) dX rfl
      have hlt2 := (Array.getElem?_eq_some_iff.1 lY).1
      have hend := run_endRound (P := P) none lY
      refine ⟨_, _, hend, rfl, ⟨hI.putObj iY (by omega) lY rfl, ?_, (World.putObj_heap_other (by omega)).trans dY⟩, rX.trans (rY.trans (Rk.putObj (by omega) lY rfl)), ?_⟩
      · rw [World.putObj_heap_same hlt2, hr0]; rfl
      · exact fX.trans ((⟨kY.size, fun k o hk ho hc => kY.same k o (by omega) ho hc⟩ : KeepsFrom V.heap.size X Y).trans (KeepsFrom.of_grownBy' (grownBy_putObj' Y _ _) (by omega)))
    all_goals exact hY.elim
  · -- behind the iterator
    rintro e W ⟨⟨v, rfl⟩, xs, ⟨hi, hl, hd⟩, ho⟩
    have hend := run_endLoop (P := P) hl (by rw [hr0]; simp)
    have hp : (r0 .ready).pending = none := by rw [hr0]
    rw [hp] at hend
    exact ⟨none, _, hend, hdone _ xs V _ (Nat.le_refl _) kV (hI.putObj hi (by omega) hl rfl) (hOut _ _ _ _ ho (Rk.putObj (by omega) hl rfl)) ((World.putObj_heap_other (by omega)).trans hd)⟩
/-- Append in a walk: the new header bears the old block, or a new one. -/
theorem append_at {F : Fence} {n : Nat} {P : Program} (w : World) {ops : Array Oper} {rest : List Oper} {o : Oper} {a : Act} {Q : Exit → Act → World → Prop}
    (hg : o.guard = none) (s x : Operand) (t : TypeId) (hop : o.op = Op.call { callee := Callee.builtin Builtin.append, args := #[s, x], argTypes := #[t, t] })
    (base : Nat) (e : TypeId) (i : TypeInfo) (z : Value) (size bytes : Nat) (h1 : P.underlying t = some (.slice e)) (h2 : P.info? e = some i) (h3 : i.zero = some z) (h4 : i.size = size) (h5 : i.bytes = bytes) (h6 : z.cells.size = size) (h7 : 0 < size)
    (v : Value) (k : Nat) (xs : List Value) (hs : a.eval s = v) (hown : w.ownsRow base e size v k xs) (ad : Addr) (m c : Nat) (news : List Value) (hx : a.eval x = .slice (some ad) m c) (hn : news.length = m * size)
    (hc : ∀ j u, news[j]? = some u → w.cell? (ad.add j) = some u) (h1c : ∀ u ∈ news, u.oneCell' = true) (b1 : k + m ≤ maxLen) (b2 : (k + m) * bytes ≤ 140737488355328) (b3 : base ≤ w.heap.size)
    (hK : ∀ v' w', w'.ownsRow base e size v' (k + m) (xs ++ news) → w.grownBy w' v.ownBlock → (v'.ownBlock = v.ownBlock ∨ v'.ownBlock = some w.heap.size) → wpListIn F n P ops Q rest (a.put o.dst v') w') :
    wpListIn F n P ops Q (o :: rest) a w := by
  refine wpListIn_plain hg fun K hK' => ?_
  obtain ⟨v', w', hrun, r1, r2, _, r3⟩ := run_append_own_at (P := P) w base t o.type e i z size bytes h1 h2 h3 h4 h5 h6 h7 v k xs hown ad m c news hn hc h1c b1 b2 b3
  unfold Oper.wpIn
  refine ⟨by simp [Oper.about, hop, resolve, Target.leads, Sem.run_pure], ?_⟩
  rw [Oper.semAt_plain F _ _ (by rw [hop]; intro c hc'; cases hc')]
  simp [execOp, hop, resolve, invoke, builtin, hs, hx, hrun, Result.andThen]
  exact hK' _ _ (hK v' w' r1 r2 r3)
theorem pv_lt {B : Nat} {W : World} {v : Value} {base n e sz : Nat} {t : TypeId} {xs : List Value} (hv : Boxed W B t v) (hr : W.ownsRow base e sz v n xs) : ∀ b, Pv B W b → b < W.heap.size := by
  rintro b (rfl | ⟨A, n', c, t', fz, h, rfl⟩)
  · exact hv.lt
  · rw [show W.heap[B]? = _ from hv] at h
    injection h with h
    injection h with h _ _
    have hv' : v = .slice (some A) n' c := by simpa using h
    subst hv'
    rcases own_at hr with ⟨h1, _⟩ | ⟨g, cap, cur, h1, h2, _⟩
    · cases h1
    · injection h1 with h1 _ _
      injection h1 with h1
      subst h1
      exact blk_lt h2
theorem rk_append {B : Nat} {W w1 : World} {t : TypeId} {A : Option Addr} {n c : Nat} {v' : Value} {tmp : Obj} (hv : Boxed W B t (.slice A n c)) (hg : (W.alloc tmp).grownBy w1 (Value.slice A n c).ownBlock)
    (hor : v'.ownBlock = (Value.slice A n c).ownBlock ∨ v'.ownBlock = some (W.alloc tmp).heap.size) (hv2 : Boxed (w1.setCell ⟨B, 0, none⟩ v') B t v') : Rk B W (w1.setCell ⟨B, 0, none⟩ v') := by
  have hs := grownBy_setCell' w1 B v'
  have ha : W.heap.size ≤ (W.alloc tmp).heap.size := by simp
  refine ⟨hs.os.trans hg.os, hs.tape.trans hg.tape, hs.output.trans hg.output, Nat.le_trans ha (Nat.le_trans hg.size hs.size), fun b o hb hc hp => ?_, fun b hb e => ?_⟩
  · have hbl := (Array.getElem?_eq_some_iff.1 hb).1
    have h1 : b ≠ B := fun e => hp (.inl e)
    have h2 : some b ≠ (Value.slice A n c).ownBlock := fun e => by
      cases A with
      | none => cases e
      | some a =>
        injection e with e
        exact hp (.inr ⟨a, n, c, t, (0, 0), hv, e.symm⟩)
    rw [hs.block b (by have := hg.size; omega) (fun e => h1 (by injection e)), hg.block b (by omega) h2]
    exact (Below.heap_alloc W tmp b hbl).trans hb
  · rcases e with rfl | ⟨a, n', c', t', fz, h, rfl⟩
    · exact .inl rfl
    · rw [show (w1.setCell ⟨B, 0, none⟩ v').heap[B]? = _ from hv2] at h
      injection h with h
      injection h with h _ _
      have hv' : v' = .slice (some a) n' c' := by simpa using h
      subst hv'
      rcases hor with e | e
      · cases A with
        | none => cases e
        | some a' =>
          injection e with e
          exact .inr ⟨a', n, c, t, (0, 0), hv, e.symm⟩
      · injection e with e
        omega
end Go.Proofs.YtodledidabdkaaaGreatDoor

namespace Go.Proofs.YtodledidabdkaaaGreatDoor
open Go.RowKit Go.Shelf V
set_option linter.unusedVariables false
set_option linter.unusedSimpArgs false
def mV (po : Option Nat) : Value := .pointer (po.map fun b => ⟨b, 0, none⟩)
/-- A map lies, or is none. -/
def Lo (k0 k1 : Nat) : Option Nat → Mp → (Nat → Prop) → World → Prop
  | none, M, O, _ => M = ⟨[], []⟩ ∧ ∀ b, ¬ O b
  | some bm, M, O, w => Lm k0 k1 bm M O w
theorem Lo.kept {k0 k1 : Nat} {po : Option Nat} {M : Mp} {O S : Nat → Prop} {w w' : World} (h : Lo k0 k1 po M O w) (k : Kp S w w') (hS : ∀ b, O b → S b) : Lo k0 k1 po M O w' := by
  cases po with
  | none => exact h
  | some bm => exact Lm.kept h k hS
theorem Lo.all {k0 k1 : Nat} {po : Option Nat} {M : Mp} {O : Nat → Prop} {w w' : World} (h : Lo k0 k1 po M O w) (k : Kp All w w') : Lo k0 k1 po M O w' := h.kept k (fun _ _ => trivial)
theorem Lo.lt {k0 k1 : Nat} {po : Option Nat} {M : Mp} {O : Nat → Prop} {w : World} (h : Lo k0 k1 po M O w) : ∀ b, O b → b < w.heap.size := by
  cases po with
  | none => exact fun b hb => absurd hb (h.2 b)
  | some bm => exact Lm.lt h
theorem elS : El Tryz.prog 80 9 1 16 (.string ⟨#[]⟩) := ⟨Tryz.underlying80, by kernel_rfl, rfl, by decide, by decide⟩
def strs (l : List Tx) : List Value := l.map Value.string
theorem sl_one {w : World} {m : Nat} (hm : m = w.heap.size) (a : Value) (t : TypeId) : Sl (some ⟨m, 0, none⟩) 1 1 1 [a] (w.alloc (.cells #[a] t)) := by
  subst hm
  exact sl_new1 w a t
theorem own_mono {w : World} {base base' e sz n : Nat} {v : Value} {xs : List Value} (h : w.ownsRow base e sz v n xs) (hb : base' ≤ base) : w.ownsRow base' e sz v n xs := by
  refine ⟨h.1, ?_⟩
  rcases h.2 with hn | ⟨g, cap, cur, e1, e2, rest⟩
  · exact .inl hn
  · exact .inr ⟨g, cap, cur, e1, Nat.le_trans hb e2, rest⟩
def KeysR (ks : List Tx) (w : World) (e : Ending) (w' : World) : Prop := ∃ v, e = .returned v ∧ w'.ownsRow w.heap.size 9 1 v ks.length (strs ks) ∧ Kp All w w'
def keysP (M : Mp) : List Tx := (fullP M).map (·.1)
theorem lo_len {k0 k1 : Nat} {po : Option Nat} {M : Mp} {O : Nat → Prop} {w : World} (h : Lo k0 k1 po M O w) : (fullP M).length ≤ 2000 := by
  cases po with
  | none =>
    rw [h.1]
    exact Nat.zero_le _
  | some bm =>
    have h : Lm k0 k1 bm M O w := h
    rw [full_len h.inv.slen]
    exact h.inv.most
theorem str_one (s : Tx) : ∀ u ∈ [Value.string s], u.oneCell' = true := by
  intro u hu
  simp at hu
  subst hu
  rfl
set_option maxRecDepth 100000 in
set_option maxHeartbeats 2000000 in
theorem mkeys_any (k0 k1 : Nat) (po : Option Nat) (M : Mp) (O : Nat → Prop) (w : World) (h : Lo k0 k1 po M O w) : Calls Tryz.prog 109 #[mV po] w (KeysR (keysP M) w) := by
  have hlen := lo_len h
  cases po with
  | none =>
    rw [show keysP M = [] from by rw [h.1]; rfl]
    have HR0 := hid (World.ownsRow_nil w w.heap.size 9 1)
    unfold mV
    simp only [Option.map_none]
    go_enter Tryz.func109, Tryz.ntmps109
    go_wp2_with fail
    refine (mmade_nil _).mono ?_
    rintro e w1 ⟨rfl, hw⟩
    have hw := hw.symm
    subst hw
    go_wp2_with fail
    go_ret
    exact ⟨_, rfl, HR0.out, Kp.refl _ _⟩
  | some bm =>
    have h : Lm k0 k1 bm M O w := h
    obtain ⟨bw, cw, bs, cs, hm, hO⟩ := h.ms
    have hP := h.inv.pm
    have HMADE := hid (mmade_yes hP.g1.1 w hm)
    have HFULL := hid (mfull_any k0 k1 bm bw cw bs cs M hP w hm)
    obtain ⟨L, hL⟩ : ∃ L, fullP M = L := ⟨_, rfl⟩
    unfold keysP
    rw [hL] at HFULL hlen ⊢
    unfold mV
    simp only [Option.map_some]
    clear hm hO hP hL h
    go_enter Tryz.func109, Tryz.ntmps109
    go_wp2_with fail
    refine HMADE.out.mono ?_
    rintro e w1 ⟨rfl, hw⟩
    have hw := hw.symm
    subst hw
    go_wp2_with fail
    refine HFULL.out.mono ?_
    rintro e w2 ⟨v, rfl, hown, hk⟩
    obtain ⟨VA, vc, rfl⟩ := own_shape hown
    have HOW := hid hown; have HK := hid hk
    have HR0 := hid (World.ownsRow_nil w2 w.heap.size 9 1)
    obtain ⟨N, hN⟩ : ∃ N, L.length = N := ⟨_, rfl⟩
    rw [hN] at HOW hlen
    have HN := hid hN
    rw [hN]
    clear hown hk hN
    go_wp2_with fail
    go_loopw [3, 11] (fun l i wr => ∃ j : Nat, j ≤ N ∧ i = .int .i64 j ∧ Hid (wr.ownsRow w2.heap.size 9 1 l ((L.take j).map (·.1)).length (strs ((L.take j).map (·.1)))) ∧ Hid (Kp All w2 wr)) (fun _ i _ => N - (ivl i).toNat)
    case atStart => exact ⟨0, Nat.zero_le _, rfl, hid (World.ownsRow_nil w2 w2.heap.size 9 1), hid (Kp.refl _ _)⟩
    case round =>
      obtain ⟨j, hj, rfl, HR, HKR⟩ := hrel
      by_cases hlt : j < N
      · have d1 : decide ((j : Int) < (N : Int)) = true := decide_eq_true (by omega)
        obtain ⟨s, hs⟩ : ∃ s, L[j]? = some s := ⟨_, List.getElem?_eq_getElem (by rw [HN.out]; exact hlt)⟩
        rcases own_at HOW.out with ⟨e, _, _⟩ | ⟨gb, cap, cur, e, hgb, hgw, hat⟩
        · injection e with _ e _; omega
        injection e with e _ ec
        subst e ec
        obtain ⟨t1, t2⟩ := scs_get hs
        have r1 := HKR.out.cell (hat _ _ t1) trivial
        have r2 := HKR.out.cell (hat _ _ t2) trivial
        have q0 : (0 : Int) ≤ (j : Int) := by omega
        have q1 : (j : Int) < (N : Int) := by omega
        have HT : Hid (strs ((L.take (j + 1)).map (·.1)) = strs ((L.take j).map (·.1)) ++ [.string s.1] ∧ ((L.take (j + 1)).map (·.1)).length = ((L.take j).map (·.1)).length + 1) := hid (by
          rw [List.take_add_one, hs]
          simp [strs])
        have hlj : ((L.take j).map (·.1)).length = j := by rw [List.length_map, List.length_take, HN.out]; omega
        obtain ⟨s1, s2⟩ := s
        simp only at r1 r2
        obtain ⟨LA, lc, rfl⟩ := own_shape HR.out
        rw [hlj] at HR
        rw [hlj]
        have hb2 := HKR.out.size
        clear hs t1 t2 hat hgb hgw
        go_wp2_with (at_builtin; go_loud (refine wpList_app elS (World.ownsRow.alloc (World.ownsRow.alloc HR.out _) _) (sl_one (m := wr.heap.size + 1) (by simp) _ _) (str_one s1) ?_ (by have := HKR.out.size; simp; omega) rfl _ _ rfl rfl rfl ?_); (omega); intro v' w5 hown5 hg5 hob5 hnil5; have HO5 := hid hown5; have HG5 := hid hg5; clear hown5 hg5 hob5 hnil5)
        obtain ⟨A5, c5, rfl⟩ := own_shape HO5.out
        have hk5 : Kp All w2 w5 := ((HKR.out.alloc _).alloc _).then (Kp.grown HG5.out) (fun b hb _ e => by have := (HR.out.lt b e.symm).1; omega)
        have HK5 := hid hk5
        have HR5 : Hid (w5.ownsRow w2.heap.size 9 1 (.slice A5 (j + 1) c5) ((L.take (j + 1)).map (·.1)).length (strs ((L.take (j + 1)).map (·.1)))) := hid (by
          rw [HT.out.1, HT.out.2, hlj]
          exact HO5.out)
        clear hk5
        exact ⟨⟨j + 1, by omega, by go_num, HR5, HK5⟩, by simp [ivl]; omega⟩
      · have d1 : decide ((j : Int) < (N : Int)) = false := decide_eq_false (by omega)
        obtain rfl : j = N := by omega
        go_wp2_with fail
        go_ret
        have := HR.out
        rw [List.take_of_length_le (by rw [HN.out]; exact Nat.le_refl _)] at this
        exact ⟨_, rfl, own_mono this HK.out.size, HK.out.trans HKR.out⟩
end Go.Proofs.YtodledidabdkaaaGreatDoor

namespace Go.Proofs.YtodledidabdkaaaGreatDoor
open Go.RowKit Go.Shelf V
set_option linter.unusedVariables false
set_option linter.unusedSimpArgs false
/-- A walk lies at bW; ks are ahead, in block gR. -/
def Kw (po : Option Nat) (bW gR : Nat) (ks : List Tx) (w : World) : Prop := ∃ A c, w.heap[bW]? = some (.cells #[mV po, .slice A ks.length c] 143 (0, 0)) ∧ Foot (fun b => b = gR) (Sl A ks.length c 1 (strs ks)) w ∧ (ks ≠ [] → gR ≠ bW ∧ ∃ cur t fz, w.heap[gR]? = some (.cells cur t fz))
theorem Kw.kept {S : Nat → Prop} {po : Option Nat} {bW gR : Nat} {ks : List Tx} {w w' : World} (h : Kw po bW gR ks w) (k : Kp S w w') (h1 : S bW) (h2 : S gR) : Kw po bW gR ks w' := by
  obtain ⟨A, c, e, hf, hg⟩ := h
  exact ⟨A, c, k.heap e h1, hf.step (k.mono fun b _ hb => hb ▸ h2), fun hk => ⟨(hg hk).1, by obtain ⟨cur, t, fz, e⟩ := (hg hk).2; exact ⟨cur, t, fz, k.heap e h2⟩⟩⟩
theorem Kw.all {po : Option Nat} {bW gR : Nat} {ks : List Tx} {w w' : World} (h : Kw po bW gR ks w) (k : Kp All w w') : Kw po bW gR ks w' := h.kept k trivial trivial
theorem own_footR {w : World} {base g n c : Nat} {A : Option Addr} {xs : List Value} {t : TypeId} (h : w.ownsRow base t 1 (.slice A n c) n xs) (hb : ∀ a, A = some a → a.block = g) : Foot (fun b => b = g) (Sl A n c 1 xs) w := by
  intro u hu
  have h2 : u.ownsRow base t 1 (.slice A n c) n xs := own_kept h hu (fun b e => by
    cases A with
    | none => cases e
    | some a => injection e with e; rw [← e]; exact hb a rfl)
  have := (own_sl h2 (Nat.le_refl _)).1
  rwa [List.take_of_length_le (by have := h.1; omega)] at this
set_option maxRecDepth 100000 in
theorem wnew_any (k0 k1 : Nat) (po : Option Nat) (M : Mp) (O : Nat → Prop) (w : World) (h : Lo k0 k1 po M O w) : Calls Tryz.prog 80 #[mV po] w fun e w' => ∃ bW gR, e = .returned (.pointer (some ⟨bW, 0, none⟩)) ∧ w.heap.size ≤ bW ∧ (keysP M ≠ [] → w.heap.size ≤ gR) ∧ Kw po bW gR (keysP M) w' ∧ Kp All w w' := by
  have HK := hid (mkeys_any k0 k1 po M O w h)
  clear h
  have hmv : ∃ x, mV po = .pointer x := ⟨_, rfl⟩
  obtain ⟨x, hx⟩ := hmv
  rw [hx] at HK ⊢
  have HX := hid hx
  clear hx
  go_enter Tryz.func80, Tryz.ntmps80
  go_wp2_with fail
  refine HK.out.mono ?_
  rintro e w1 ⟨v, rfl, hown, hk⟩
  obtain ⟨A, c, rfl⟩ := own_shape hown
  have HOW := hid hown; have HKK := hid hk
  obtain ⟨n, hn⟩ : ∃ n, (keysP M).length = n := ⟨_, rfl⟩
  rw [hn] at HOW
  have HN := hid hn
  rw [hn]
  clear hown hk hn
  go_wp2_with fail
  go_ret
  rcases own_at HOW.out with ⟨e1, e2, e3⟩ | ⟨gb, cap, cur, e1, e2, e3, e4⟩
  · have hnil : keysP M = [] := List.eq_nil_of_length_eq_zero (by rw [HN.out, e2])
    refine ⟨_, 0, rfl, HKK.out.size, fun h => absurd hnil h, ⟨A, c, ?_, ?_, fun h => absurd hnil h⟩, HKK.out.alloc _⟩
    · rw [HX.out, HN.out]; exact blk_new _ _
    · rw [hnil]
      intro u hu
      exact ⟨rfl, Nat.zero_le _, fun h => absurd h (by simp)⟩
  · injection e1 with e1 _ _
    refine ⟨_, gb, rfl, HKK.out.size, fun _ => e3, ⟨A, c, ?_, ?_, fun _ => ⟨?_, cur, _, _, blk_alloc e2 _⟩⟩, HKK.out.alloc _⟩
    · rw [HX.out, HN.out]; exact blk_new _ _
    · rw [HN.out]
      exact own_footR (base := w.heap.size) (t := 9) ((HOW.out).alloc _) (fun a e => by rw [e1] at e; injection e with e; rw [← e])
    · have := blk_lt e2
      omega
set_option maxRecDepth 100000 in
theorem wnext_nil (po : Option Nat) (bW : Nat) (w : World) (gR : Nat) (h : Kw po bW gR [] w) : Calls Tryz.prog 81 #[.pointer (some ⟨bW, 0, none⟩)] w fun e w' => e = .returned (.tuple #[.string ByteArray.empty, .string ByteArray.empty, .bool false]) ∧ w' = w := by
  obtain ⟨A, c, e, _, _⟩ := h
  have c0 := blk_cell e
  simp only [List.length_nil] at c0
  clear e
  go_enter Tryz.func81, Tryz.ntmps81
  go_wp2
  refine wp_loop_rounds 1 ?_
  rw [rounds_succ]
  go_wp2
  exact bodyPost_ret (v := .tuple #[.string ByteArray.empty, .string ByteArray.empty, .bool false]) (by simp [results, Tryz.results81, go_sem]; rfl) rfl ⟨rfl, rfl⟩
set_option maxRecDepth 100000 in
set_option maxHeartbeats 1000000 in
theorem wnext_cons (k0 k1 bm bW gR : Nat) (M : Mp) (O : Nat → Prop) (k v : Tx) (r : List Tx) (hkv : getP' (sipP k0 k1) M k = some v) (hk9 : k.size ≤ 9000000000000000000) (hr : r.length ≤ 2000) (w : World) (hl : Lm k0 k1 bm M O w) (hO : ¬ O bW) (h : Kw (some bm) bW gR (k :: r) w) :
    Calls Tryz.prog 81 #[.pointer (some ⟨bW, 0, none⟩)] w fun e w' => e = .returned (.tuple #[.string k, .string v, .bool true]) ∧ Kw (some bm) bW gR r w' ∧ Kp (fun b => b ≠ bW) w w' := by
  obtain ⟨A, c, hb, hf, hgr⟩ := h
  obtain ⟨hgne, hgc⟩ := hgr (by simp)
  obtain ⟨curg, tg, fzg, hgc⟩ := hgc
  have HGC := hid hgc
  clear hgc hgr
  obtain ⟨bw, cw, bs, cs, hm, hOO⟩ := hl.ms
  obtain ⟨n, hn⟩ : ∃ n, r.length = n := ⟨_, rfl⟩
  rw [List.length_cons, hn] at hb hf
  obtain ⟨_, hc2, h3⟩ := hf.now
  obtain ⟨b, o, eA, hrr⟩ := h3 (by omega)
  subst eA
  have p0 : w.cell? ⟨b, o, none⟩ = some (.string k) := by
    have := hrr 0 (.string k) rfl
    rwa [Nat.add_zero] at this
  have c0 := blk_cell hb
  have f0 := blk_free hb
  have hin : ∀ i, findP (sipP k0 k1) M k = some i → i < 8 * M.g := fun i hi => by
    obtain ⟨v0, hF⟩ := find_mem hl.inv hi
    have := hF.lt
    rw [hl.inv.g8] at this
    exact this
  have HG := hid (fun w' hk' => mget_any k0 k1 bm bw cw bs cs M hl.inv.pm hl.h0 hl.h1 k hk9 w' (hm.kept (S := fun b => b ≠ bW) hk' (fun e => hO ((hOO _).2 (.inl e.symm))) (fun e => hO ((hOO _).2 (.inr (.inl e.symm)))) (fun e => hO ((hOO _).2 (.inr (.inr e.symm))))) hin)
  rw [hkv] at HG
  have HF := hid hf; have HB := hid hb; have HN := hid hn; have HR := hid hrr
  have d0 : decide ((0 : Int) < ((n + 1 : Nat) : Int)) = true := decide_eq_true (by omega)
  have i1 : (1 : Int) ≤ ((n + 1 : Nat) : Int) := by omega
  have i2 : ((n + 1 : Nat) : Int) ≤ (c : Int) := by omega
  have i3 : (1 : Int) ≤ (c : Int) := by omega
  have i4 : (0 : Int) < ((n + 1 : Nat) : Int) := by omega
  clear hb hf hm hOO hl hin hn hrr h3 hkv
  have hcc : c = 1 ∨ c ≠ 1 := by omega
  rcases hcc with hc1 | hc1
  · subst hc1
    go_enter Tryz.func81, Tryz.ntmps81
    go_wp2_with fail
    refine wp_loop_rounds 1 ?_
    rw [rounds_succ]
    go_wp2_with fail
    refine (HG.out _ ((Kp.refl _ _).setOut (by simp) _)).mono ?_
    rintro e w2 ⟨rfl, hk2⟩
    have HK2 := hid hk2
    clear hk2
    simp only [getV, Option.getD_some, Option.isSome_some]
    go_wp2_with fail
    have hn0 : n = 0 := by omega
    have hr0 : r = [] := List.eq_nil_of_length_eq_zero (by rw [HN.out, hn0])
    refine bodyPost_ret (v := .tuple #[.string k, .string v, .bool true]) (by simp [results, Tryz.results81, go_sem]) rfl ⟨rfl, ?_, ((Kp.refl _ _).setOut (by simp) _).then HK2.out (fun _ _ _ => trivial)⟩
    rw [hr0]
    exact ⟨some ⟨b, o, none⟩, 0, HK2.out.heap (blk_set HB.out 1 (.slice (some ⟨b, o, none⟩) 0 0)) trivial, fun u hu => ⟨rfl, Nat.le_refl _, fun h => absurd h (by simp)⟩, fun h => absurd rfl h⟩
  · go_enter Tryz.func81, Tryz.ntmps81
    go_wp2_with fail
    refine wp_loop_rounds 1 ?_
    rw [rounds_succ]
    go_wp2_with fail
    refine (HG.out _ ((Kp.refl _ _).setOut (by simp) _)).mono ?_
    rintro e w2 ⟨rfl, hk2⟩
    have HK2 := hid hk2
    clear hk2
    simp only [getV, Option.getD_some, Option.isSome_some]
    go_wp2_with fail
    have hkt : Kp (fun b => b ≠ bW) w w2 := ((Kp.refl _ _).setOut (by simp) _).then HK2.out (fun _ _ _ => trivial)
    refine bodyPost_ret (v := .tuple #[.string k, .string v, .bool true]) (by simp [results, Tryz.results81, go_sem]) rfl ⟨rfl, ?_, hkt⟩
    refine ⟨some ⟨b, o + 1, none⟩, c - 1, ?_, ?_, fun _ => ⟨hgne, curg, tg, fzg, hkt.heap HGC.out hgne⟩⟩
    · rw [HN.out]
      exact HK2.out.heap (blk_set HB.out 1 (.slice (some ⟨b, o + 1, none⟩) n (c - 1))) trivial
    · intro u hu
      obtain ⟨g1, g2, g3⟩ := HF.out u ((hkt.mono (T := fun b => b = gR) (fun i _ (e : i = gR) => by rw [e]; exact hgne)).trans hu)
      refine ⟨by simp [strs], by rw [HN.out]; omega, fun h => ⟨b, o + 1, rfl, fun j x hj => ?_⟩⟩
      obtain ⟨b', o', e', g4⟩ := g3 (by omega)
      injection e' with e'
      injection e' with e1 e2 _
      subst e1 e2
      have := g4 (j + 1) x (by simpa [strs] using hj)
      rwa [show o + (j + 1) = o + 1 + j from by omega] at this
end Go.Proofs.YtodledidabdkaaaGreatDoor

namespace Go.Proofs.YtodledidabdkaaaGreatDoor
open Go.RowKit Go.Shelf V
set_option linter.unusedVariables false
set_option linter.unusedSimpArgs false
attribute [local go_sem] Oper.semAt_some
theorem Rk.kp {B g : Nat} {W W' : World} (k : Rk B W W') {cs : Array Value} {t : TypeId} {fz : Nat × Nat} (h : W.heap[g]? = some (.cells cs t fz)) (hp : ¬ Pv B W g) : Kp (fun b => b = g) W W' :=
  ⟨k.os, k.tape, k.output, k.size, fun b hb e => by subst e; exact (k.same _ _ h rfl hp).trans h.symm⟩
theorem Lo.rk {k0 k1 B : Nat} {po : Option Nat} {M : Mp} {O : Nat → Prop} {W W' : World} (h : Lo k0 k1 po M O W) (k : Rk B W W') (hp : ∀ b, O b → ¬ Pv B W b) : Lo k0 k1 po M O W' := by
  cases po with
  | none => exact h
  | some bm =>
    have h : Lm k0 k1 bm M O W := h
    obtain ⟨bw, cw, bs, cs, hm, hO⟩ := h.ms
    obtain ⟨c1, e1, e2, e3⟩ := hm.wds
    obtain ⟨c2, f1, f2, f3⟩ := hm.sls
    exact ({ h with ms := ⟨bw, cw, bs, cs, { hm with str := k.same _ _ hm.str rfl (hp _ ((hO _).2 (.inl rfl))), wds := ⟨c1, k.same _ _ e1 rfl (hp _ ((hO _).2 (.inr (.inl rfl)))), e2, e3⟩, sls := ⟨c2, k.same _ _ f1 rfl (hp _ ((hO _).2 (.inr (.inr rfl)))), f2, f3⟩ }, hO⟩ } : Lm k0 k1 bm M O W')
theorem Kw.rk {B : Nat} {po : Option Nat} {bW gR : Nat} {ks : List Tx} {W W' : World} (h : Kw po bW gR ks W) (k : Rk B W W') (h1 : ¬ Pv B W bW) (h2 : ks ≠ [] → ¬ Pv B W gR) : Kw po bW gR ks W' := by
  obtain ⟨A, c, e, hf, hg⟩ := h
  refine ⟨A, c, k.same _ _ e rfl h1, ?_, fun hk => ⟨(hg hk).1, by obtain ⟨cur, t, fz, e⟩ := (hg hk).2; exact ⟨cur, t, fz, k.same _ _ e rfl (h2 hk)⟩⟩⟩
  by_cases hk : ks = []
  · subst hk
    have := hf.now
    exact fun u hu => ⟨rfl, this.2.1, fun h => absurd h (by simp)⟩
  · obtain ⟨cur, t, fz, e⟩ := (hg hk).2
    exact hf.step (k.kp e (h2 hk))
theorem nopv {B : Nat} {W W' : World} (k : Rk B W W') {b : Nat} (hb : b < W.heap.size) (h : ¬ Pv B W b) : ¬ Pv B W' b := fun e => h (k.priv b hb e)
def slA (x : Slot) : Array Value := #[.string x.1, .string x.2]
def hdk (L : List Slot) : Tx := (L.head?.map (·.1)).getD ByteArray.empty
def hdv (L : List Slot) : Tx := (L.head?.map (·.2)).getD ByteArray.empty
def nxV (L : List Slot) : Value := .tuple #[.string (hdk L), .string (hdv L), .bool (!L.isEmpty)]
theorem nextw_at (k0 k1 bW gR : Nat) (po : Option Nat) (M : Mp) (O : Nat → Prop) (L : List Slot) (hsub : ∀ x ∈ L, x ∈ fullP M) (hlen : L.length ≤ 2000) (w : World) (h : Lo k0 k1 po M O w) (hO : ¬ O bW) (hk : Kw po bW gR (L.map (·.1)) w) :
    Calls Tryz.prog 81 #[.pointer (some ⟨bW, 0, none⟩)] w fun e w' => e = .returned (nxV L) ∧ Kw po bW gR (L.tail.map (·.1)) w' ∧ Kp (fun b => b ≠ bW) w w' := by
  cases L with
  | nil =>
    refine (wnext_nil po bW w gR hk).mono ?_
    rintro e w' ⟨rfl, hw⟩
    rw [hw]
    exact ⟨rfl, hk, Kp.refl _ _⟩
  | cons x r =>
    have hx := hsub x (List.mem_cons_self ..)
    cases po with
    | none =>
      rw [h.1] at hx
      cases hx
    | some bm =>
      have h : Lm k0 k1 bm M O w := h
      have hh := mem_full.1 hx
      exact wnext_cons k0 k1 bm bW gR M O x.1 x.2 (r.map (fun s : Slot => s.1)) ((get_some h.inv).2 hh) (h.keys _ _ hh) (by simp at hlen ⊢; omega) w h hO hk
def mW (bW : Nat) (w : World) : Nat := match w.cell? ⟨bW, 1, none⟩ with
  | some (.slice _ n _) => n
  | _ => 0
theorem mW_kw {po : Option Nat} {bW gR : Nat} {ks : List Tx} {w : World} (h : Kw po bW gR ks w) : mW bW w = ks.length := by
  obtain ⟨A, c, e, _⟩ := h
  unfold mW
  rw [blk_cell e]
  rfl
theorem Kp.grow1 {bW : Nat} {w w' : World} (k : Kp (fun b => b ≠ bW) w w') : w.grownBy w' (some bW) := ⟨k.os, k.tape, k.output, k.size, fun b hb h => k.block b hb (fun e => h (by rw [e]))⟩
set_option maxRecDepth 100000 in
set_option maxHeartbeats 2000000 in
theorem all1_in (n : Nat) (hn : 3 ≤ n) (l B b1 k0 k1 : Nat) (po : Option Nat) (M : Mp) (O : Nat → Prop) (J : List Slot → World → Prop) (W : World) (hJ : OwnX B W.heap.size J) (hB : B < W.heap.size)
    (hp : ∀ pre W', J pre W' → ∀ b, Pv B W' b → b < W'.heap.size)
    (hY : ∀ (m : Nat) pre x W1, J pre W1 → pre.length < 2000 → YieldAt Fence.wide m Tryz.prog l (slA x) W1 fun e W' => e = .returned (.bool true) ∧ J (pre ++ [x]) W' ∧ Rk B W1 W' ∧ KeepsFrom W.heap.size W1 W')
    (hb : W.heap[b1]? = some (.cells #[mV po] 28 (0, 0))) (hl : Lo k0 k1 po M O W) (hOp : ∀ b, O b → ¬ Pv B W b) (h0 : J [] W) :
    CallsIn Fence.wide n Tryz.prog 79 #[.func (.yield l) #[] #[], .pointer (some ⟨b1, 0, none⟩)] W fun e W' => (∃ v, e = .returned v) ∧ ∃ xs, J xs W' ∧ xs = fullP M := by
  have HNEW := hid (fun w h => callsIn_wide (n := n - 1).2 (wnew_any k0 k1 po M O w h))
  have hlen := lo_len hl
  have hc1 := blk_cell hb
  have HL := hid hl; have HY := hid hY; have HJ := hid hJ; have HP := hid hp; have HOP := hid hOp; have H0 := hid h0
  have hmv : ∃ x, mV po = .pointer x := ⟨_, rfl⟩
  obtain ⟨xm, hx⟩ := hmv
  have hf1 : Fence.wide.fn 80 := trivial
  have hf2 : Fence.wide.fn 81 := trivial
  rw [hx] at HNEW hc1
  have hn1 : 1 ≤ n := by omega
  clear hl hY hJ hp hOp h0 hb
  refine callsIn_of_wp Tryz.func79 rfl trivial ?_ rfl
  simp only [Tryz.ntmps79, List.size_toArray, List.length_cons, List.length_nil, Nat.reduceAdd, Nat.reduceSub, Array.replicate_succ, Array.replicate_zero, List.push_toArray, List.append_toArray, List.nil_append, List.cons_append]
  have hkl : ∀ x ∈ fullP M, x ∈ fullP M := fun _ h => h
  have HN0 := hid (fun w bW gR h hO hk => callsIn_wide (n := n - 1).2 (nextw_at k0 k1 bW gR po M O (fullP M) hkl hlen w h hO hk))
  gi_wp2_with (gi_at_call 80; refine (HNEW.out _ HL.out).mono ?_; rintro e w2 ⟨bW, gR, rfl, z1, z2, hkw, hk2⟩)
  have hObw : ¬ O bW := fun e => by have := HL.out.lt _ e; omega
  have HL2 := hid (HL.out.all hk2)
  refine (HN0.out w2 bW gR HL2.out hObw hkw).mono ?_
  rintro e w3 ⟨rfl, hkw3, hk3⟩
  have hk23 : Kp (fun b => b ≠ bW) W w3 := (hk2.all).trans hk3
  have hBne : B ≠ bW := by omega
  have hpv3 : ∀ b, Pv B w3 b → b < W.heap.size := fun b h => HP.out _ _ H0.out b ((Pv.same (hk23.block B hB hBne) b).1 h)
  have HL3 : Hid (Lo k0 k1 po M O w3) := hid (HL2.out.kept hk3 (fun b hb e => hObw (e ▸ hb)))
  have HJ3 : Hid (J [] w3) := hid (HJ.out [] W w3 none H0.out (grown_kp (by exact ⟨hk23.os, hk23.tape, hk23.output, hk23.size, fun b hb _ => hk23.block b hb (by omega)⟩)) (fun r e => by cases e))
  have hbW3 : bW < w3.heap.size := by obtain ⟨_, _, e, _⟩ := hkw3; exact blk_lt e
  have hB3 : B < w3.heap.size := Nat.lt_of_lt_of_le hB hk23.size
  have NB := hid (show ¬ Pv B w3 bW from fun e => by have := hpv3 _ e; omega)
  have NR := hid (show keysP M ≠ [] → ¬ Pv B w3 gR from fun h e => by have := hpv3 _ e; have := z2 h; omega)
  have NO := hid (show ∀ b, O b → ¬ Pv B w3 b from fun b hb e => HOP.out b hb ((Pv.same (hk23.block B hB hBne) b).1 e))
  have HKW3 := hid hkw3
  clear hkw hk2 hkw3 hk3
  unfold nxV
  gi_wp2
  have NAll := hid (show (∀ b, O b → ¬ Pv B w3 b) ∧ ¬ Pv B w3 bW ∧ (keysP M ≠ [] → ¬ Pv B w3 gR) from ⟨NO.out, NB.out, NR.out⟩)
  have hgr : (fullP M).tail ≠ [] → keysP M ≠ [] := fun h e => by
    unfold keysP at e
    have : fullP M = [] := by simpa using e
    rw [this] at h
    exact h rfl
  have NAll2 := hid (show (∀ b, O b → ¬ Pv B w3 b) ∧ ¬ Pv B w3 bW ∧ ((fullP M).tail ≠ [] → ¬ Pv B w3 gR) from ⟨NO.out, NB.out, fun h => NR.out (hgr h)⟩)
  gi_loopw [4, 5, 6] (fun a b c wr => ∃ (pre L : List Slot), a = .string (hdk L) ∧ b = .string (hdv L) ∧ c = .bool (!L.isEmpty) ∧ Hid (pre ++ L = fullP M) ∧ J pre wr ∧ Hid (Kw po bW gR (L.tail.map (·.1)) wr) ∧ Hid (Lo k0 k1 po M O wr) ∧ Hid (B < wr.heap.size) ∧ Hid ((∀ b, O b → ¬ Pv B wr b) ∧ ¬ Pv B wr bW ∧ (L.tail ≠ [] → ¬ Pv B wr gR)))
    (fun a b c wr => (match c with | .bool true => 1 | _ => 0) + mW bW wr)
  case atStart => exact ⟨[], fullP M, rfl, rfl, rfl, hid rfl, HJ3.out, HKW3, HL3, hid hB3, NAll2⟩
  case round =>
    obtain ⟨pre, L, rfl, rfl, rfl, hL, hJr, hKr, hLr, hBr, hNr⟩ := hrel
    cases L with
    | nil =>
      simp only [List.isEmpty_nil, Bool.not_true]
      gi_wp2
      refine ⟨fun f e => (by cases e), ?_⟩
      gi_wp2
      go_end0
      exact ⟨⟨_, rfl⟩, pre, hJr, by rw [← hL.out, List.append_nil]⟩
    | cons x r =>
      have hpl : pre.length < 2000 := by
        have := congrArg List.length hL.out
        simp at this
        omega
      obtain ⟨fn, tmps, assign, body, hy, hR⟩ := HY.out (n - 1) pre x wr hJr hpl
      unfold slA at hy
      have e1 : hdk (x :: r) = x.1 := rfl
      have e2 : hdv (x :: r) = x.2 := rfl
      have e3 : (!(x :: r).isEmpty) = true := rfl
      rw [e1, e2, e3]
      gi_wp2
      refine hR.mono ?_
      rintro e W4 ⟨rfl, hJ4, hk4, hkf4⟩
      have hbW : bW < wr.heap.size := by obtain ⟨_, _, e, _⟩ := hKr.out; exact blk_lt e
      have hN4 : (∀ b, O b → ¬ Pv B W4 b) ∧ ¬ Pv B W4 bW ∧ (r ≠ [] → ¬ Pv B W4 gR) := ⟨fun b hb => nopv hk4 (hLr.out.lt b hb) (hNr.out.1 b hb), nopv hk4 hbW hNr.out.2.1, fun h => nopv hk4 (by
        obtain ⟨_, _, _, _, e⟩ := hKr.out
        obtain ⟨_, _, _, e⟩ := (e (by simpa using h)).2
        exact blk_lt e) (hNr.out.2.2 h)⟩
      have hK4 := hKr.out.rk hk4 hNr.out.2.1 (fun h => hNr.out.2.2 (by simpa using h))
      have hL4 := hLr.out.rk hk4 hNr.out.1
      have hsub : ∀ y ∈ r, y ∈ fullP M := fun y hy => by
        rw [← hL.out]
        exact List.mem_append_right _ (List.mem_cons_of_mem _ hy)
      have HNX := hid (callsIn_wide (n := n - 1).2 (nextw_at k0 k1 bW gR po M O r hsub (by have := congrArg List.length hL.out; simp at this; omega) W4 hL4 hObw hK4))
      have HJ4 := hid hJ4; have HN4 := hid hN4; have HL4 := hid hL4; have HK4 := hid hK4; have HB4 := hid (Nat.lt_of_lt_of_le hBr.out hk4.size)
      have hmr : Hid (mW bW wr = r.length) := hid (by rw [mW_kw hKr.out]; simp)
      clear hJ4 hk4 hkf4 hK4 hL4 hsub hN4
      gi_wp2
      refine HNX.out.mono ?_
      rintro e W5 ⟨rfl, hK5, hk5⟩
      have HK5 := hid hK5; have Hk5 := hid hk5
      clear hK5 hk5
      unfold nxV
      gi_wp2
      have hPs : ∀ b, Pv B W5 b ↔ Pv B W4 b := fun b => Pv.same (Hk5.out.block B HB4.out hBne) b
      refine ⟨⟨pre ++ [x], r, rfl, rfl, rfl, hid (by rw [← hL.out]; simp), ?_, HK5, hid (HL4.out.kept Hk5.out (fun b hb e => hObw (e ▸ hb))), hid (Nat.lt_of_lt_of_le HB4.out Hk5.out.size), hid ⟨fun b hb e => HN4.out.1 b hb ((hPs b).1 e), fun e => HN4.out.2.1 ((hPs _).1 e), fun h e => HN4.out.2.2 (fun h2 => h (by rw [h2]; rfl)) ((hPs _).1 e)⟩⟩, ?_⟩
      · refine HJ.out _ W4 W5 (some bW) HJ4.out Hk5.out.grow1 (fun r e => ?_)
        injection e with e
        subst e
        obtain ⟨_, _, e, _⟩ := HK4.out
        exact ⟨z1, _, e, .inr HN4.out.2.1⟩
      · rw [mW_kw HK5.out, hmr.out]
        cases r with
        | nil => simp
        | cons y r => simp
end Go.Proofs.YtodledidabdkaaaGreatDoor

namespace Go.Proofs.YtodledidabdkaaaGreatDoor
open Go.RowKit Go.Shelf Go.Sort V
set_option linter.unusedVariables false
set_option linter.unusedSimpArgs false
theorem gtr_str (t : TypeId) (a b : ByteArray) : binOp .gtr t (.string a) (.string b) = pure (.bool !(Op.bytesLess a.toList b.toList || a.toList == b.toList)) := by simp [binOp, Op.stringOp]
attribute [go_sem] gtr_str
theorem geq_str (t : TypeId) (a b : ByteArray) : binOp .geq t (.string a) (.string b) = pure (.bool !(Op.bytesLess a.toList b.toList)) := by simp [binOp, Op.stringOp]
attribute [go_sem] geq_str
theorem lss_tx (a b : Tx) : Op.bytesLess a.toList b.toList = decide (bl a < bl b) := by rw [bytesLess_eq, ByteArray.toList_eq, ByteArray.toList_eq]
theorem beq_tx (a b : Tx) : (a.toList == b.toList) = decide (bl a = bl b) := by
  rw [ByteArray.toList_eq, ByteArray.toList_eq]
  by_cases h : a.data.toList = b.data.toList
  · rw [decide_eq_true (show bl a = bl b from h)]; exact beq_iff_eq.2 h
  · rw [decide_eq_false (show ¬ bl a = bl b from h)]; exact beq_false_of_ne h
end Go.Proofs.YtodledidabdkaaaGreatDoor
