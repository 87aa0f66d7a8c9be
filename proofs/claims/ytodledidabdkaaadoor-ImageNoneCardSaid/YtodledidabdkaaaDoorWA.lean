/- A loop over an iterator that itself runs Go code: what a round keeps, the loop's law, append within a round; over any program. -/
import Derived.Test.YtodledidabdkaaaDoorVY
import Derived.RangeFuncNested
import Derived.RangeFuncBound
import Derived.Maps.AppendAt
namespace Go.Proofs.YtodledidabdkaaaDoor
open Go.RowKit Go.Shelf
set_option linter.unusedVariables false
set_option linter.unusedSimpArgs false
attribute [local go_sem] Oper.semAt_some
/-! ### What a round of the collecting loop keeps -/
/-- The collecting loop's own blocks: its box B, and the row that the box holds. -/
def Pv (B : Nat) (W : World) (b : Nat) : Prop := b = B ∨ ∃ (A : Addr) (n c : Nat) (t : TypeId) (fz : Nat × Nat), W.heap[B]? = some (.cells #[.slice (some A) n c] t fz) ∧ A.block = b
structure Rk (B : Nat) (W W' : World) : Prop where
  os : W'.os = W.os
  tape : W'.tape = W.tape
  output : W'.output = W.output
  size : W.heap.size ≤ W'.heap.size
  same : ∀ b o, W.heap[b]? = some o → o.isCells = true → ¬ Pv B W b → W'.heap[b]? = some o
  priv : ∀ b, b < W.heap.size → Pv B W' b → Pv B W b
theorem Rk.refl (B : Nat) (W : World) : Rk B W W := ⟨rfl, rfl, rfl, Nat.le_refl _, fun _ _ h _ _ => h, fun _ _ h => h⟩
theorem Rk.trans {B : Nat} {X Y Z : World} (h : Rk B X Y) (k : Rk B Y Z) : Rk B X Z :=
  ⟨k.os.trans h.os, k.tape.trans h.tape, k.output.trans h.output, Nat.le_trans h.size k.size,
    fun b o hb hc hp => k.same b o (h.same b o hb hc hp) hc (fun e => hp (h.priv b (Array.getElem?_eq_some_iff.1 hb).1 e)),
    fun b hb e => h.priv b hb (k.priv b (Nat.lt_of_lt_of_le hb h.size) e)⟩
theorem Pv.same {B : Nat} {W W' : World} (h : W'.heap[B]? = W.heap[B]?) (b : Nat) : Pv B W' b ↔ Pv B W b := by
  unfold Pv
  rw [h]
theorem Rk.of_kp {B : Nat} {W W' : World} (hB : B < W.heap.size) (k : Kp All W W') : Rk B W W' :=
  ⟨k.os, k.tape, k.output, k.size, fun b o hb _ _ => (k.block b (Array.getElem?_eq_some_iff.1 hb).1 trivial).trans hb, fun b _ e => (Pv.same (k.block B hB trivial) b).1 e⟩
theorem Rk.putObj {B : Nat} {W : World} {l : Nat} {o o' : Obj} (hB : B < l) (h : W.heap[l]? = some o) (hc : o.isCells = false) : Rk B W (W.putObj l o') := by
  refine ⟨rfl, rfl, rfl, ?_, fun b u hb hu hp => ?_, fun b _ e => ?_⟩
  · exact (grownBy_putObj' W l o').size
  · have : b ≠ l := by rintro rfl; rw [h] at hb; injection hb with hb; subst hb; rw [hc] at hu; cases hu
    rw [World.putObj_heap_other this]; exact hb
  · exact (Pv.same (by rw [World.putObj_heap_other (by omega)]) b).1 e
def on (R : Act → World → Prop) : Exit → Act → World → Prop := fun e a w => match e with | .normal => R a w | _ => False
theorem grown_kp {w w' : World} (k : Kp All w w') {row : Option Nat} : w.grownBy w' row := ⟨k.os, k.tape, k.output, k.size, fun b hb _ => k.block b hb trivial⟩
theorem kf_kp {B : Nat} {w w' : World} (k : Kp All w w') : KeepsFrom B w w' := ⟨k.size, fun i o _ hi _ => (k.block i (Array.getElem?_eq_some_iff.1 hi).1 trivial).trans hi⟩
theorem KeepsFrom.of_grownBy' {B j : Nat} {W W' : World} (hg : W.grownBy W' (some j)) (hj : j < B) : KeepsFrom B W W' := KeepsFrom.of_grownBy hg (fun i e => by cases e; exact hj)
theorem range_own {α : Type} {P : Program} {n : Nat} {g : Operand} {ps : Array Tmp} {assign body : Code} {Q : Exit → Act → World → Prop} {a : Act} {w : World}
    (hn : 1 ≤ n) {gf : Nat} {lb : Array Value} (hg : a.eval g = .func (.func gf) #[] lb) (eg : ∀ args w, (callFunc gf args).run P w = .ok (.enter gf args) w)
    {encs : α → Array Value} (hps : ∀ x, (encs x).size = ps.size) (B N : Nat) (hB : B < w.heap.size) (Out : List α → World → World → Prop) (hOut : ∀ xs W0 X Y, Out xs W0 X → Rk B X Y → Out xs W0 Y)
    (hseq : ∀ (l : Nat) (J : List α → World → Prop) (W : World), Kp All w W → OwnFrom W.heap.size J → (∀ pre W', J pre W' → ∀ b, Pv B W' b → b < W'.heap.size) →
      (∀ (m : Nat) pre x W1, J pre W1 → pre.length < N → YieldAt Fence.wide m P l (encs x) W1 fun e W' => e = .returned (.bool true) ∧ J (pre ++ [x]) W' ∧ Rk B W1 W' ∧ KeepsFrom W.heap.size W1 W') → J [] W →
      CallsIn Fence.wide (n - 1) P gf (#[.func (.yield l) #[] #[]] ++ lb) W fun e W' => (∃ v, e = .returned v) ∧ ∃ xs, J xs W' ∧ Out xs W W')
    (I : List α → World → Prop) (hI : OwnFrom w.heap.size I) (hIp : ∀ pre W', I pre W' → ∀ b, Pv B W' b → b < W'.heap.size) (h0 : I [] w) (a₁ : α → Act)
    (hassign : ∀ (l k : Nat) (x : α) (W : World) (K : Act → World → Prop), K (a₁ x) W →
      assign.wpIn (Fence.wide.inRound l) k P (Exit.then K (fun _ _ _ => False)) { tmps := (ps.zip (encs x)).foldl (fun t (p, v) => t.setIfInBounds p v) a.tmps, defers := [] } W)
    (hbody : ∀ (l k : Nat) (pre : List α) (x : α) (W : World), I pre W → pre.length < N → body.wpIn (Fence.wide.inRound l) k P (on fun _ W' => KeepsFrom w.heap.size W W' ∧ Rk B W W' ∧ I (pre ++ [x]) W') (a₁ x) W)
    (hdone : ∀ (D : Nat) (xs : List α) (W0 W : World), w.heap.size ≤ D → Kp All w W0 → I xs W → Out xs W0 W → W.heap[D]? = some (.deferred (some [])) → Q .normal { a with defers := { target := .collected D, args := #[] } :: a.defers } W) :
    (Code.rangeFunc g ps assign body).wpIn Fence.wide n P Q a w := by
  refine wpIn_rangeFunc fun fn hfn => ?_
  obtain ⟨r0, hr0⟩ : ∃ r0 : LoopState → Loop, r0 = fun st => { state := st, pending := none, fn, tmps := a.tmps, params := ps, assign, body, defers := w.heap.size } := ⟨_, rfl⟩
  obtain ⟨V, hV⟩ : ∃ V, (w.alloc (.deferred (some []))).alloc (.loop (r0 .ready)) = V := ⟨_, rfl⟩
  have kV : Kp All w V := hV ▸ (Kp.al _ _).trans (Kp.al _ _)
  have zV : V.heap.size = w.heap.size + 2 := by rw [← hV]; simp
  have rec0 : V.heap[w.heap.size + 1]? = some (.loop (r0 .ready)) := by
    rw [← hV]
    have := World.alloc_heap_new (w.alloc (.deferred (some []))) (.loop (r0 .ready))
    rwa [World.size_alloc] at this
  have def0 : V.heap[w.heap.size]? = some (.deferred (some [])) := by
    rw [← hV]
    exact (Below.heap_alloc _ _ _ (by simp)).trans (World.alloc_heap_new w _)
  refine ⟨w.heap.size + 1, [{ target := .collected w.heap.size, args := #[] }], V, { target := .fn (.func gf) lb, args := #[.func (.yield (w.heap.size + 1)) #[] #[]] }, V, gf, #[.func (.yield (w.heap.size + 1)) #[] #[]] ++ lb, V, ?_, ?_, ?_, ?_, fun _ => hn, ?_⟩
  · rw [← hV, hr0]
    exact run_enterLoop_outer _ _ _ _ _
  · simp only [resolve, hg]
    simp [go_sem]
  · intro _ _; trivial
  · simp [invoke, go_sem, eg]
  -- the loop's books: the record stands ready, the block of deferred calls empty
  refine (hseq (w.heap.size + 1) (fun pre W => I pre W ∧ W.heap[w.heap.size + 1]? = some (.loop (r0 .ready)) ∧ W.heap[w.heap.size]? = some (.deferred (some []))) V kV ?_ (fun pre W h => hIp pre W h.1) ?_ ⟨hI _ w V none h0 (grown_kp kV) (fun r e => by cases e), rec0, def0⟩).mono ?_
  · intro pre X Y row h hgr hr
    refine ⟨hI pre X Y row h.1 hgr (fun r e => ⟨by have := (hr r e).1; omega, (hr r e).2⟩), ?_, ?_⟩
    · exact (hgr.block _ (Array.getElem?_eq_some_iff.1 h.2.1).1 (fun e => by have := (hr _ e.symm).1; omega)).trans h.2.1
    · exact (hgr.block _ (Array.getElem?_eq_some_iff.1 h.2.2).1 (fun e => by have := (hr _ e.symm).1; omega)).trans h.2.2
  · -- a round
    rintro m pre x W ⟨hi, hl, hd⟩ hlen
    have hy := run_yield (P := P) (args := encs x) hl (by rw [hr0]; exact hps x)
    rw [hr0] at hy
    refine ⟨fn, _, assign, body, hy, roundIn_of_wpIn hfn (hassign _ m x W _ ?_)⟩
    have hlt := (Array.getElem?_eq_some_iff.1 hl).1
    have hb1 := run_beginRound (P := P) hl (by rw [hr0])
    refine ⟨_, hb1, ?_⟩
    obtain ⟨X, hX⟩ : ∃ X, W.putObj (w.heap.size + 1) (.loop { r0 .ready with state := .busy }) = X := ⟨_, rfl⟩
    rw [hX]
    have lX : X.heap[w.heap.size + 1]? = some (.loop { r0 .ready with state := .busy }) := by rw [← hX]; exact World.putObj_heap_same hlt
    have dX : X.heap[w.heap.size]? = some (.deferred (some [])) := by rw [← hX]; exact (World.putObj_heap_other (by omega)).trans hd
    have iX : I pre X := by rw [← hX]; exact hI.putObj _ hi (by omega) hl rfl
    have rX : Rk B W X := by rw [← hX]; exact Rk.putObj (by omega) hl rfl
    have fX : KeepsFrom V.heap.size W X := by rw [← hX]; exact KeepsFrom.of_grownBy' (grownBy_putObj' W _ _) (by omega)
    refine wpIn_mono (hbody _ m pre x X iX hlen) ?_
    intro e a3 Y hY
    cases e
    case normal =>
      obtain ⟨kY, rY, iY⟩ := hY
      have lY := kY.same _ _ (by omega) lX rfl
      have dY := kY.same _ _ (Nat.le_refl _) dX rfl
      have hlt2 := (Array.getElem?_eq_some_iff.1 lY).1
      have hend := run_endRound (P := P) none lY
      refine ⟨_, _, hend, rfl, ⟨hI.putObj _ iY (by omega) lY rfl, ?_, (World.putObj_heap_other (by omega)).trans dY⟩, rX.trans (rY.trans (Rk.putObj (by omega) lY rfl)), ?_⟩
      · rw [World.putObj_heap_same hlt2, hr0]; rfl
      · exact fX.trans ((⟨kY.size, fun k o hk ho hc => kY.same k o (by omega) ho hc⟩ : KeepsFrom V.heap.size X Y).trans (KeepsFrom.of_grownBy' (grownBy_putObj' Y _ _) (by omega)))
    all_goals exact hY.elim
  · -- behind the iterator
    rintro e W ⟨⟨v, rfl⟩, xs, ⟨hi, hl, hd⟩, ho⟩
    have hend := run_endLoop (P := P) hl (by rw [hr0]; simp)
    have hp : (r0 .ready).pending = none := by rw [hr0]
    rw [hp] at hend
    exact ⟨none, _, hend, hdone _ xs V _ (Nat.le_refl _) kV (hI.putObj _ hi (by omega) hl rfl) (hOut _ _ _ _ ho (Rk.putObj (by omega) hl rfl)) ((World.putObj_heap_other (by omega)).trans hd)⟩
/-- What holds goes by none but the loop's own blocks, and by those below base. -/
def OwnX {β : Type} (B base : Nat) (J : β → World → Prop) : Prop := ∀ (s : β) (X Y : World) (row : Option Nat), J s X → X.grownBy Y row → (∀ r, row = some r → base ≤ r ∧ ∃ o : Obj, X.heap[r]? = some o ∧ (o.isCells = false ∨ ¬ Pv B X r)) → J s Y
theorem OwnX.putObj {β : Type} {B base : Nat} {J : β → World → Prop} (hJ : OwnX B base J) {s : β} {W : World} {l : Nat} {o o' : Obj} (h : J s W) (hl : base ≤ l) (ho : W.heap[l]? = some o) (hc : o.isCells = false) : J s (W.putObj l o') :=
  hJ s W _ (some l) h (grownBy_putObj' W l o') (fun r e => by cases e; exact ⟨hl, o, ho, .inl hc⟩)
theorem range_own2 {α : Type} {P : Program} {n : Nat} {g : Operand} {ps : Array Tmp} {assign body : Code} {Q : Exit → Act → World → Prop} {a : Act} {w : World}
    (hn : 1 ≤ n) {gf : Nat} {lb : Array Value} (hg : a.eval g = .func (.func gf) #[] lb) (eg : ∀ args w, (callFunc gf args).run P w = .ok (.enter gf args) w)
    {encs : α → Array Value} (hps : ∀ x, (encs x).size = ps.size) (B N : Nat) (hB : B < w.heap.size) (Out : List α → World → World → Prop) (hOut : ∀ xs W0 X Y, Out xs W0 X → Rk B X Y → Out xs W0 Y)
    (hseq : ∀ (l : Nat) (J : List α → World → Prop) (W : World), Kp All w W → OwnX B W.heap.size J → (∀ pre W', J pre W' → ∀ b, Pv B W' b → b < W'.heap.size) →
      (∀ (m : Nat) pre x W1, J pre W1 → pre.length < N → YieldAt Fence.wide m P l (encs x) W1 fun e W' => e = .returned (.bool true) ∧ J (pre ++ [x]) W' ∧ Rk B W1 W' ∧ KeepsFrom W.heap.size W1 W') → J [] W →
      CallsIn Fence.wide (n - 1) P gf (#[.func (.yield l) #[] #[]] ++ lb) W fun e W' => (∃ v, e = .returned v) ∧ ∃ xs, J xs W' ∧ Out xs W W')
    (I : List α → World → Prop) (hI : OwnX B w.heap.size I) (hIp : ∀ pre W', I pre W' → ∀ b, Pv B W' b → b < W'.heap.size) (h0 : I [] w) (a₁ : α → Act)
    (hassign : ∀ (l k : Nat) (x : α) (W : World) (K : Act → World → Prop), K (a₁ x) W →
      assign.wpIn (Fence.wide.inRound l) k P (Exit.then K (fun _ _ _ => False)) { tmps := (ps.zip (encs x)).foldl (fun t (p, v) => t.setIfInBounds p v) a.tmps, defers := [] } W)
    (hbody : ∀ (l k : Nat) (pre : List α) (x : α) (W : World), I pre W → pre.length < N → body.wpIn (Fence.wide.inRound l) k P (on fun _ W' => KeepsFrom w.heap.size W W' ∧ Rk B W W' ∧ I (pre ++ [x]) W') (a₁ x) W)
    (hdone : ∀ (D : Nat) (xs : List α) (W0 W : World), w.heap.size ≤ D → Kp All w W0 → I xs W → Out xs W0 W → W.heap[D]? = some (.deferred (some [])) → Q .normal { a with defers := { target := .collected D, args := #[] } :: a.defers } W) :
    (Code.rangeFunc g ps assign body).wpIn Fence.wide n P Q a w := by
  refine wpIn_rangeFunc fun fn hfn => ?_
  obtain ⟨r0, hr0⟩ : ∃ r0 : LoopState → Loop, r0 = fun st => { state := st, pending := none, fn, tmps := a.tmps, params := ps, assign, body, defers := w.heap.size } := ⟨_, rfl⟩
  obtain ⟨V, hV⟩ : ∃ V, (w.alloc (.deferred (some []))).alloc (.loop (r0 .ready)) = V := ⟨_, rfl⟩
  have kV : Kp All w V := hV ▸ (Kp.al _ _).trans (Kp.al _ _)
  have zV : V.heap.size = w.heap.size + 2 := by rw [← hV]; simp
  have rec0 : V.heap[w.heap.size + 1]? = some (.loop (r0 .ready)) := by
    rw [← hV]
    have := World.alloc_heap_new (w.alloc (.deferred (some []))) (.loop (r0 .ready))
    rwa [World.size_alloc] at this
  have def0 : V.heap[w.heap.size]? = some (.deferred (some [])) := by
    rw [← hV]
    exact (Below.heap_alloc _ _ _ (by simp)).trans (World.alloc_heap_new w _)
  refine ⟨w.heap.size + 1, [{ target := .collected w.heap.size, args := #[] }], V, { target := .fn (.func gf) lb, args := #[.func (.yield (w.heap.size + 1)) #[] #[]] }, V, gf, #[.func (.yield (w.heap.size + 1)) #[] #[]] ++ lb, V, ?_, ?_, ?_, ?_, fun _ => hn, ?_⟩
  · rw [← hV, hr0]
    exact run_enterLoop_outer _ _ _ _ _
  · simp only [resolve, hg]
    simp [go_sem]
  · intro _ _; trivial
  · simp [invoke, go_sem, eg]
  -- the loop's books: the record stands ready, the block of deferred calls empty
  refine (hseq (w.heap.size + 1) (fun pre W => I pre W ∧ W.heap[w.heap.size + 1]? = some (.loop (r0 .ready)) ∧ W.heap[w.heap.size]? = some (.deferred (some []))) V kV ?_ (fun pre W h => hIp pre W h.1) ?_ ⟨hI _ w V none h0 (grown_kp kV) (fun r e => by cases e), rec0, def0⟩).mono ?_
  · intro pre X Y row h hgr hr
    refine ⟨hI pre X Y row h.1 hgr (fun r e => ⟨by have := (hr r e).1; omega, (hr r e).2⟩), ?_, ?_⟩
    · exact (hgr.block _ (Array.getElem?_eq_some_iff.1 h.2.1).1 (fun e => by have := (hr _ e.symm).1; omega)).trans h.2.1
    · exact (hgr.block _ (Array.getElem?_eq_some_iff.1 h.2.2).1 (fun e => by have := (hr _ e.symm).1; omega)).trans h.2.2
  · -- a round
    rintro m pre x W ⟨hi, hl, hd⟩ hlen
    have hy := run_yield (P := P) (args := encs x) hl (by rw [hr0]; exact hps x)
    rw [hr0] at hy
    refine ⟨fn, _, assign, body, hy, roundIn_of_wpIn hfn (hassign _ m x W _ ?_)⟩
    have hlt := (Array.getElem?_eq_some_iff.1 hl).1
    have hb1 := run_beginRound (P := P) hl (by rw [hr0])
    refine ⟨_, hb1, ?_⟩
    obtain ⟨X, hX⟩ : ∃ X, W.putObj (w.heap.size + 1) (.loop { r0 .ready with state := .busy }) = X := ⟨_, rfl⟩
    rw [hX]
    have lX : X.heap[w.heap.size + 1]? = some (.loop { r0 .ready with state := .busy }) := by rw [← hX]; exact World.putObj_heap_same hlt
    have dX : X.heap[w.heap.size]? = some (.deferred (some [])) := by rw [← hX]; exact (World.putObj_heap_other (by omega)).trans hd
    have iX : I pre X := by rw [← hX]; exact hI.putObj hi (by omega) hl rfl
    have rX : Rk B W X := by rw [← hX]; exact Rk.putObj (by omega) hl rfl
    have fX : KeepsFrom V.heap.size W X := by rw [← hX]; exact KeepsFrom.of_grownBy' (grownBy_putObj' W _ _) (by omega)
    refine wpIn_mono (hbody _ m pre x X iX hlen) ?_
    intro e a3 Y hY
    cases e
    case normal =>
      obtain ⟨kY, rY, iY⟩ := hY
      have lY := kY.same _ _ (by omega) lX rfl
      have dY := kY.same _ _ (Nat.le_refl _) dX rfl
      have hlt2 := (Array.getElem?_eq_some_iff.1 lY).1
      have hend := run_endRound (P := P) none lY
      refine ⟨_, _, hend, rfl, ⟨hI.putObj iY (by omega) lY rfl, ?_, (World.putObj_heap_other (by omega)).trans dY⟩, rX.trans (rY.trans (Rk.putObj (by omega) lY rfl)), ?_⟩
      · rw [World.putObj_heap_same hlt2, hr0]; rfl
      · exact fX.trans ((⟨kY.size, fun k o hk ho hc => kY.same k o (by omega) ho hc⟩ : KeepsFrom V.heap.size X Y).trans (KeepsFrom.of_grownBy' (grownBy_putObj' Y _ _) (by omega)))
    all_goals exact hY.elim
  · -- behind the iterator
    rintro e W ⟨⟨v, rfl⟩, xs, ⟨hi, hl, hd⟩, ho⟩
    have hend := run_endLoop (P := P) hl (by rw [hr0]; simp)
    have hp : (r0 .ready).pending = none := by rw [hr0]
    rw [hp] at hend
    exact ⟨none, _, hend, hdone _ xs V _ (Nat.le_refl _) kV (hI.putObj hi (by omega) hl rfl) (hOut _ _ _ _ ho (Rk.putObj (by omega) hl rfl)) ((World.putObj_heap_other (by omega)).trans hd)⟩
/-- Append in a walk: the new header bears the old block, or a new one. -/
theorem append_at {F : Fence} {n : Nat} {P : Program} (w : World) {ops : Array Oper} {rest : List Oper} {o : Oper} {a : Act} {Q : Exit → Act → World → Prop}
    (hg : o.guard = none) (s x : Operand) (t : TypeId) (hop : o.op = Op.call { callee := Callee.builtin Builtin.append, args := #[s, x], argTypes := #[t, t] })
    (base : Nat) (e : TypeId) (i : TypeInfo) (z : Value) (size bytes : Nat) (h1 : P.underlying t = some (.slice e)) (h2 : P.info? e = some i) (h3 : i.zero = some z) (h4 : i.size = size) (h5 : i.bytes = bytes) (h6 : z.cells.size = size) (h7 : 0 < size)
    (v : Value) (k : Nat) (xs : List Value) (hs : a.eval s = v) (hown : w.ownsRow base e size v k xs) (ad : Addr) (m c : Nat) (news : List Value) (hx : a.eval x = .slice (some ad) m c) (hn : news.length = m * size)
    (hc : ∀ j u, news[j]? = some u → w.cell? (ad.add j) = some u) (h1c : ∀ u ∈ news, u.oneCell' = true) (b1 : k + m ≤ maxLen) (b2 : (k + m) * bytes ≤ 140737488355328) (b3 : base ≤ w.heap.size)
    (hK : ∀ v' w', w'.ownsRow base e size v' (k + m) (xs ++ news) → w.grownBy w' v.ownBlock → (v'.ownBlock = v.ownBlock ∨ v'.ownBlock = some w.heap.size) → wpListIn F n P ops Q rest (a.put o.dst v') w') :
    wpListIn F n P ops Q (o :: rest) a w := by
  refine wpListIn_plain hg fun K hK' => ?_
  obtain ⟨v', w', hrun, r1, r2, _, r3⟩ := run_append_own_at (P := P) w base t o.type e i z size bytes h1 h2 h3 h4 h5 h6 h7 v k xs hown ad m c news hn hc h1c b1 b2 b3
  unfold Oper.wpIn
  refine ⟨by simp [Oper.about, hop, resolve, Target.leads, Sem.run_pure], ?_⟩
  rw [Oper.semAt_plain F _ _ (by rw [hop]; intro c hc'; cases hc')]
  simp [execOp, hop, resolve, invoke, builtin, hs, hx, hrun, Result.andThen]
  exact hK' _ _ (hK v' w' r1 r2 r3)
theorem pv_lt {B : Nat} {W : World} {v : Value} {base n e sz : Nat} {t : TypeId} {xs : List Value} (hv : Boxed W B t v) (hr : W.ownsRow base e sz v n xs) : ∀ b, Pv B W b → b < W.heap.size := by
  rintro b (rfl | ⟨A, n', c, t', fz, h, rfl⟩)
  · exact hv.lt
  · rw [show W.heap[B]? = _ from hv] at h
    injection h with h
    injection h with h _ _
    have hv' : v = .slice (some A) n' c := by simpa using h
    subst hv'
    rcases own_at hr with ⟨h1, _⟩ | ⟨g, cap, cur, h1, h2, _⟩
    · cases h1
    · injection h1 with h1 _ _
      injection h1 with h1
      subst h1
      exact blk_lt h2
theorem rk_append {B : Nat} {W w1 : World} {t : TypeId} {A : Option Addr} {n c : Nat} {v' : Value} {tmp : Obj} (hv : Boxed W B t (.slice A n c)) (hg : (W.alloc tmp).grownBy w1 (Value.slice A n c).ownBlock)
    (hor : v'.ownBlock = (Value.slice A n c).ownBlock ∨ v'.ownBlock = some (W.alloc tmp).heap.size) (hv2 : Boxed (w1.setCell ⟨B, 0, none⟩ v') B t v') : Rk B W (w1.setCell ⟨B, 0, none⟩ v') := by
  have hs := grownBy_setCell' w1 B v'
  have ha : W.heap.size ≤ (W.alloc tmp).heap.size := by simp
  refine ⟨hs.os.trans hg.os, hs.tape.trans hg.tape, hs.output.trans hg.output, Nat.le_trans ha (Nat.le_trans hg.size hs.size), fun b o hb hc hp => ?_, fun b hb e => ?_⟩
  · have hbl := (Array.getElem?_eq_some_iff.1 hb).1
    have h1 : b ≠ B := fun e => hp (.inl e)
    have h2 : some b ≠ (Value.slice A n c).ownBlock := fun e => by
      cases A with
      | none => cases e
      | some a =>
        injection e with e
        exact hp (.inr ⟨a, n, c, t, (0, 0), hv, e.symm⟩)
    rw [hs.block b (by have := hg.size; omega) (fun e => h1 (by injection e)), hg.block b (by omega) h2]
    exact (Below.heap_alloc W tmp b hbl).trans hb
  · rcases e with rfl | ⟨a, n', c', t', fz, h, rfl⟩
    · exact .inl rfl
    · rw [show (w1.setCell ⟨B, 0, none⟩ v').heap[B]? = _ from hv2] at h
      injection h with h
      injection h with h _ _
      have hv' : v' = .slice (some a) n' c' := by simpa using h
      subst hv'
      rcases hor with e | e
      · cases A with
        | none => cases e
        | some a' =>
          injection e with e
          exact .inr ⟨a', n, c, t, (0, 0), hv, e.symm⟩
      · injection e with e
        omega
end Go.Proofs.YtodledidabdkaaaDoor
