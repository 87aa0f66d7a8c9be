/- Small laws for the walks of this seat: what a piece of a run keeps, maps with integer keys, slices, appends. No condition. Regions that draw their order and whose last operation waits for all others: the others in whatever order, then the last one. No program in sight. Rows of bytes, and own rows: what they are, and what keeps them. No condition. -/
import Derived.Test.YtodledidabdkaaaGreatDoorProg
import Derived.WalkKit
import Derived.KernelRfl
import Derived.WalkLawsBesides
import Derived.WalkSpells
import Derived.MapKept
import Derived.Deep.Draws
import Derived.Maps.AppendAt
import Derived.Lib.AppendStr
import Derived.Lib.SliceRun
import Derived.Deep.RegionHeld3
import Derived.Laws.StructEq
import Derived.Deep.RegionWith
import Derived.Deep.QuietTactic
import Derived.BigQuiet
set_option linter.unusedVariables false
set_option linter.unusedSimpArgs false
namespace Go.Proofs.YtodledidabdkaaaGreatDoor
open Go.RowKit Go.MapKept
set_option linter.unusedSectionVars false
set_option linter.unusedSimpArgs false
set_option linter.unusedVariables false

/-! ### What a piece of a run keeps -/


theorem hid {p : Prop} (h : p) : Hid p := h
structure Kp (S : Nat → Prop) (w w' : World) : Prop where
  os : w'.os = w.os
  tape : w'.tape = w.tape
  output : w'.output = w.output
  size : w.heap.size ≤ w'.heap.size
  block : ∀ b, b < w.heap.size → S b → w'.heap[b]? = w.heap[b]?

/-- All blocks. -/
def All : Nat → Prop := fun _ => True

theorem Kp.refl (S : Nat → Prop) (w : World) : Kp S w w := ⟨rfl, rfl, rfl, Nat.le_refl _, fun _ _ _ => rfl⟩
theorem Kp.trans {S : Nat → Prop} {a b c : World} (h : Kp S a b) (k : Kp S b c) : Kp S a c :=
  ⟨k.os.trans h.os, k.tape.trans h.tape, k.output.trans h.output, Nat.le_trans h.size k.size, fun i hi hs => (k.block i (Nat.lt_of_lt_of_le hi h.size) hs).trans (h.block i hi hs)⟩
theorem Kp.mono {S T : Nat → Prop} {a b : World} (h : Kp S a b) (hs : ∀ k, k < a.heap.size → T k → S k) : Kp T a b :=
  ⟨h.os, h.tape, h.output, h.size, fun i hi ht => h.block i hi (hs i hi ht)⟩
theorem Kp.all {T : Nat → Prop} {a b : World} (h : Kp All a b) : Kp T a b := h.mono fun _ _ _ => trivial
/-- What was kept up to a and what the later step kept of the blocks that a had. -/
theorem Kp.then {S T : Nat → Prop} {a b c : World} (h : Kp S a b) (k : Kp T b c) (hs : ∀ i, i < a.heap.size → S i → T i) : Kp S a c :=
  ⟨k.os.trans h.os, k.tape.trans h.tape, k.output.trans h.output, Nat.le_trans h.size k.size, fun i hi hS => (k.block i (Nat.lt_of_lt_of_le hi h.size) (hs i hi hS)).trans (h.block i hi hS)⟩
theorem Kp.of_below {B : Nat} {a b : World} (h : Below B a b) (hB : a.heap.size ≤ B) : Kp All a b :=
  ⟨h.os, h.tape, h.output, h.size, fun i hi _ => h.block i (by omega)⟩
theorem Kp.below {a b : World} (h : Kp All a b) : Below a.heap.size a b := ⟨h.os, h.tape, h.output, h.size, fun i hi => h.block i hi trivial⟩
theorem Kp.grown {a b : World} {row : Option Nat} (h : a.grownBy b row) : Kp (fun k => some k ≠ row) a b := ⟨h.os, h.tape, h.output, h.size, fun i hi hs => h.block i hi hs⟩
theorem Kp.drew {S : Nat → Prop} {a w : World} (h : Kp S a w) : Kp S a w.drew := ⟨h.os, h.tape, h.output, h.size, h.block⟩
theorem Kp.drewN {S : Nat → Prop} {a w : World} (h : Kp S a w) (n : Nat) : Kp S a (w.drewN n) := ⟨h.os, h.tape, h.output, h.size, h.block⟩
theorem Kp.alloc {S : Nat → Prop} {a w : World} (h : Kp S a w) (o : Obj) : Kp S a (w.alloc o) :=
  h.trans ⟨rfl, rfl, rfl, by simp, fun b hb _ => Below.heap_alloc _ _ _ hb⟩
theorem Kp.al (w : World) (o : Obj) : Kp All w (w.alloc o) := (Kp.refl All w).alloc o
theorem Kp.setCell {S : Nat → Prop} {a w : World} (h : Kp S a w) {p : Addr} (hp : p.block < a.heap.size → ¬ S p.block) (u : Value) : Kp S a (w.setCell p u) :=
  ⟨h.os, h.tape, h.output, by simpa using h.size, fun b hb hs => (Below.heap_setCell _ _ _ _ (fun e => hp (e ▸ hb) (e ▸ hs))).trans (h.block b hb hs)⟩
theorem Kp.setNew {S : Nat → Prop} {a w : World} (h : Kp S a w) {b i : Nat} (hp : a.heap.size ≤ b) (u : Value) : Kp S a (w.setCell ⟨b, i, none⟩ u) := h.setCell (fun hb => absurd hb (Nat.not_lt.2 hp)) u
theorem Kp.setOut {S : Nat → Prop} {a w : World} (h : Kp S a w) {b i : Nat} (hp : ¬ S b) (u : Value) : Kp S a (w.setCell ⟨b, i, none⟩ u) := h.setCell (fun _ => hp) u
theorem Kp.setHeap {S : Nat → Prop} {a w : World} (h : Kp S a w) {m : Nat} (hp : m < a.heap.size → ¬ S m) (o : Obj) : Kp S a { w with heap := w.heap.setIfInBounds m o } :=
  ⟨h.os, h.tape, h.output, by simpa using h.size, fun b hb hs => by
    have hne : b ≠ m := fun e => hp (e ▸ hb) (e ▸ hs)
    have := h.block b hb hs
    simpa [Array.getElem?_setIfInBounds, Ne.symm hne] using this⟩
theorem Kp.heap {S : Nat → Prop} {w w' : World} (h : Kp S w w') {b : Nat} {o : Obj} (hb : w.heap[b]? = some o) (hs : S b) : w'.heap[b]? = some o :=
  (h.block b (Array.getElem?_eq_some_iff.1 hb).1 hs).trans hb
theorem Kp.cell {S : Nat → Prop} {w w' : World} (h : Kp S w w') {p : Addr} {v : Value} (hc : w.cell? p = some v) (hs : S p.block) : w'.cell? p = some v :=
  (World.cell?_of_block (h.block p.block (World.block_lt_of_cell? w p hc) hs)).trans hc

theorem blk_lt {w : World} {b : Nat} {o : Obj} (h : w.heap[b]? = some o) : b < w.heap.size := (Array.getElem?_eq_some_iff.1 h).1
theorem blk_cell {w : World} {b : Nat} {cs : Array Value} {t : TypeId} {fz : Nat × Nat} (h : w.heap[b]? = some (.cells cs t fz)) (i : Nat) : w.cell? ⟨b, i, none⟩ = cs[i]? := by
  simp [World.cell?, h]
theorem blk_free {w : World} {b : Nat} {cs : Array Value} {t : TypeId} (h : w.heap[b]? = some (.cells cs t (0, 0))) (i : Nat) : w.frozen? ⟨b, i, none⟩ = false := by
  simp [World.frozen?, h]
theorem blk_new (w : World) (o : Obj) : (w.alloc o).heap[w.heap.size]? = some o := (MapKept.heap_alloc w o).1
theorem blk_alloc {w : World} {b : Nat} {o : Obj} (h : w.heap[b]? = some o) (o' : Obj) : (w.alloc o').heap[b]? = some o := (Below.heap_alloc w o' b (blk_lt h)).trans h
theorem blk_set {w : World} {b : Nat} {cs : Array Value} {t : TypeId} {fz : Nat × Nat} (h : w.heap[b]? = some (.cells cs t fz)) (i : Nat) (v : Value) : (w.setCell ⟨b, i, none⟩ v).heap[b]? = some (.cells (cs.setIfInBounds i v) t fz) := by
  simp [World.setCell, Array.getElem?_modify, h]
theorem blk_far {w : World} {b : Nat} {o : Obj} (h : w.heap[b]? = some o) {p : Addr} (hne : b ≠ p.block) (v : Value) : (w.setCell p v).heap[b]? = some o := (Below.heap_setCell w p v b hne).trans h

/-- P holds, and goes by the blocks of S alone. -/
def Foot (S : Nat → Prop) (P : World → Prop) (w : World) : Prop := ∀ w', Kp S w w' → P w'
theorem Foot.now {S : Nat → Prop} {P : World → Prop} {w : World} (h : Foot S P w) : P w := h w (Kp.refl S w)
theorem Foot.step {S : Nat → Prop} {P : World → Prop} {w w' : World} (h : Foot S P w) (k : Kp S w w') : Foot S P w' := fun u hu => h u (k.trans hu)
theorem Foot.mono {S T : Nat → Prop} {P : World → Prop} {w : World} (h : Foot S P w) (hs : ∀ k, k < w.heap.size → S k → T k) : Foot T P w := fun u hu => h u (hu.mono hs)
theorem Foot.imp {S : Nat → Prop} {P Q : World → Prop} {w : World} (h : Foot S P w) (hi : ∀ u, P u → Q u) : Foot S Q w := fun u hu => hi u (h u hu)

/-! ### An operation whose run is known up to what it answers -/
theorem wpList_event {P : Program} {ops : Array Oper} {rest : List Oper} {o : Oper} {a : Act} {Q : Exit → Act → World → Prop} {w : World} (R : Value → World → Prop)
    (hw : Region.wanted o (yielded ops a.tmps) = true) (h : ∃ v w', (execOp a.eval o).run P w = .ok (.value v) w' ∧ R v w') (hK : ∀ v w', R v w' → wpList P ops Q rest (a.put o.dst v) w') : wpList P ops Q (o :: rest) a w := by
  obtain ⟨v, w', he, hr⟩ := h
  unfold wpList
  rw [if_pos hw]
  refine .inl ?_
  unfold Oper.wp
  rw [he]
  exact hK v w' hr

/-- A law on an operation, in the form that a region's steps have. -/
theorem step_plain {P : Program} {ops : Array Oper} {o : Oper} {a : Act} {w : World} {K : Act → World → Prop} {Q : Exit → Act → World → Prop} {E : Prop} (hg : o.guard = none) (h : o.wp P a w K Q) :
    if Region.wanted o (yielded ops a.tmps) = true then Oper.wp P o a w K Q else E := by
  rw [if_pos (by simp [Region.wanted, hg])]
  exact h

/-! ### Maps whose keys are told at once -/
section maps
variable {κ : Type} [DecidableEq κ]

/-- Keys of a kind, written out. -/
structure KeyEnc (P : Program) (kt : TypeId) (d : TypeDesc) (enc : κ → Value) : Prop where
  kind : P.underlying kt = some d
  key : ∀ k, IsKey d (enc k)
  inj : ∀ j k, enc j = enc k → j = k

/-- Block m is a map of the entries L. -/
def KMap (enc : κ → Value) (w : World) (m : Nat) (L : List (κ × Value)) : Prop :=
  ∃ es ck, w.heap[m]? = some (.map es ck) ∧ Stamped es ck ∧ es.toList.map (fun e => (e.key, e.val)) = L.map (fun x => (enc x.1, x.2))

def aget {β : Type} (L : List (κ × β)) (k : κ) : Option β := (L.find? (fun x => x.1 == k)).map (·.2)
def aset {β : Type} (L : List (κ × β)) (k : κ) (v : β) : List (κ × β) := if (aget L k).isSome then L.map (fun x => if x.1 = k then (k, v) else x) else L ++ [(k, v)]
def adel {β : Type} (L : List (κ × β)) (k : κ) : List (κ × β) := L.filter (fun x => x.1 ≠ k)
theorem aget_map {β γ : Type} (f : β → γ) (L : List (κ × β)) (k : κ) : aget (L.map fun x => (x.1, f x.2)) k = (aget L k).map f := by
  unfold aget
  induction L with
  | nil => rfl
  | cons x L ih =>
    simp only [List.map_cons, List.find?_cons]
    split <;> simp_all
theorem aset_map {β γ : Type} (f : β → γ) (L : List (κ × β)) (k : κ) (v : β) : aset (L.map fun x => (x.1, f x.2)) k (f v) = (aset L k v).map fun x => (x.1, f x.2) := by
  unfold aset
  rw [aget_map, Option.isSome_map]
  split
  · simp only [List.map_map]
    congr 1
    funext x
    simp only [Function.comp]
    split <;> rfl
  · simp
theorem adel_map {β γ : Type} (f : β → γ) (L : List (κ × β)) (k : κ) : adel (L.map fun x => (x.1, f x.2)) k = (adel L k).map fun x => (x.1, f x.2) := by
  unfold adel
  rw [List.filter_map]
  rfl
theorem mem_aset {β : Type} {L : List (κ × β)} {k : κ} {v : β} {x : κ × β} (h : x ∈ aset L k v) : x ∈ L ∨ x = (k, v) := by
  unfold aset at h
  split at h
  · obtain ⟨y, hy, rfl⟩ := List.mem_map.1 h
    split
    · exact .inr rfl
    · exact .inl hy
  · simpa using h
theorem mem_adel {β : Type} {L : List (κ × β)} {k : κ} {x : κ × β} (h : x ∈ adel L k) : x ∈ L := (List.mem_filter.1 h).1
theorem aget_aset_same {β : Type} (L : List (κ × β)) (k : κ) (v : β) : aget (aset L k v) k = some v := by
  unfold aset
  split
  · rename_i h
    unfold aget at h ⊢
    induction L with
    | nil => simp at h
    | cons x L ih =>
      simp only [List.map_cons, List.find?_cons] at h ⊢
      by_cases hx : x.1 = k
      · simp [hx]
      · simp only [hx, if_false, beq_iff_eq] at h ⊢
        split
        · simp_all
        · exact ih (by split at h <;> simp_all)
  · rename_i h
    have h0 : L.find? (fun x => x.1 == k) = none := by
      cases hh : L.find? (fun x => x.1 == k) with
      | none => rfl
      | some x => simp [aget, hh] at h
    simp [aget, List.find?_append, h0]
theorem aget_aset_other {β : Type} (L : List (κ × β)) (k j : κ) (v : β) (hj : j ≠ k) : aget (aset L k v) j = aget L j := by
  unfold aset
  split
  · rename_i h
    clear h
    unfold aget
    induction L with
    | nil => rfl
    | cons x L ih =>
      rw [List.map_cons, List.find?_cons, List.find?_cons]
      by_cases hx : x.1 = k
      · have h1 : (x.1 == j) = false := by rw [hx]; simp; exact fun e => hj e.symm
        have h2 : (k == j) = false := by simp; exact fun e => hj e.symm
        rw [if_pos hx, h1]
        show Option.map _ (match (k == j) with | true => _ | false => _) = _
        rw [h2]
        exact ih
      · rw [if_neg hx]
        split
        · rfl
        · exact ih
  · have : (k == j) = false := by simp; exact fun e => hj e.symm
    simp [aget, List.find?_append, this]
theorem aget_adel_other {β : Type} (L : List (κ × β)) (k j : κ) (hj : j ≠ k) : aget (adel L k) j = aget L j := by
  unfold aget adel
  rw [List.find?_filter]
  congr 2
  funext x
  by_cases h : x.1 = j
  · simp [h, hj]
  · simp [h]
theorem aget_adel_same {β : Type} (L : List (κ × β)) (k : κ) : aget (adel L k) k = none := by
  unfold aget adel
  rw [List.find?_filter]
  simp

theorem KMap.kept {enc : κ → Value} {S : Nat → Prop} {w w' : World} {m : Nat} {L : List (κ × Value)} (h : KMap enc w m L) (k : Kp S w w') (hs : S m) : KMap enc w' m L := by
  obtain ⟨es, ck, hb, hst, hL⟩ := h
  exact ⟨es, ck, k.heap hb hs, hst, hL⟩
theorem KMap.all {enc : κ → Value} {w w' : World} {m : Nat} {L : List (κ × Value)} (h : KMap enc w m L) (k : Kp All w w') : KMap enc w' m L := h.kept k trivial
theorem KMap.new (enc : κ → Value) (w : World) : KMap enc (w.alloc (.map #[] 0)) w.heap.size [] := ⟨_, _, blk_new w _, stamped_empty 0, rfl⟩

theorem KMap.keys {P : Program} {kt : TypeId} {d : TypeDesc} {enc : κ → Value} (K : KeyEnc P kt d enc) {es : Array MapEntry} {L : List (κ × Value)} (hL : es.toList.map (fun e => (e.key, e.val)) = L.map (fun x => (enc x.1, x.2))) :
    ∀ x ∈ es.toList, IsKey d x.key := by
  intro x hx
  have : (x.key, x.val) ∈ L.map (fun x => (enc x.1, x.2)) := hL ▸ List.mem_map.2 ⟨x, hx, rfl⟩
  obtain ⟨y, _, hy⟩ := List.mem_map.1 this
  rw [← (Prod.mk.inj hy).1]; exact K.key _

theorem KMap.nodup {P : Program} {kt : TypeId} {d : TypeDesc} {enc : κ → Value} (K : KeyEnc P kt d enc) {w : World} {m : Nat} {L : List (κ × Value)} (h : KMap enc w m L) : (L.map (·.1)).Nodup := by
  obtain ⟨es, ck, hb, hst, hL⟩ := h
  have h1 : es.toList.map (·.key) = L.map (fun x => enc x.1) := by
    have := congrArg (List.map Prod.fst) hL
    simpa [List.map_map, Function.comp_def] using this
  have h2 := hst.2.2
  rw [h1] at h2
  have : (L.map (fun x => enc x.1)) = (L.map (·.1)).map enc := by simp [List.map_map, Function.comp_def]
  rw [this] at h2
  exact List.Pairwise.of_map enc (fun a b hab e => hab (e ▸ rfl)) h2

theorem find_at {P : Program} {kt : TypeId} {d : TypeDesc} {enc : κ → Value} (K : KeyEnc P kt d enc) {es : List MapEntry} {L : List (κ × Value)} (k : κ) (hL : es.map (fun e => (e.key, e.val)) = L.map (fun x => (enc x.1, x.2))) :
    (Instr.findNow d (enc k) es 0 = some none ∧ aget L k = none) ∨ ∃ j e, Instr.findNow d (enc k) es 0 = some (some (j, e.val)) ∧ es[j]? = some e ∧ e.key = enc k ∧ aget L k = some e.val ∧ L[j]? = some (k, e.val) ∧ ∀ i < j, ∀ x, L[i]? = some x → x.1 ≠ k := by
  suffices H : ∀ (es : List MapEntry) (L : List (κ × Value)) (n : Nat), es.map (fun e => (e.key, e.val)) = L.map (fun x => (enc x.1, x.2)) →
      (Instr.findNow d (enc k) es n = some none ∧ aget L k = none) ∨ ∃ j e, Instr.findNow d (enc k) es n = some (some (n + j, e.val)) ∧ es[j]? = some e ∧ e.key = enc k ∧ aget L k = some e.val ∧ L[j]? = some (k, e.val) ∧ ∀ i < j, ∀ x, L[i]? = some x → x.1 ≠ k by
    have := H es L 0 hL
    simpa using this
  intro es
  induction es with
  | nil =>
    intro L n hL
    cases L with
    | nil => exact .inl ⟨rfl, rfl⟩
    | cons x L => simp at hL
  | cons e es ih =>
    intro L n hL
    cases L with
    | nil => simp at hL
    | cons x L =>
      simp only [List.map_cons, List.cons.injEq, Prod.mk.injEq] at hL
      obtain ⟨⟨hk, hv⟩, hL⟩ := hL
      obtain ⟨r, hr, hiff⟩ := sameNow_of_keys (K.key k) (K.key x.1)
      by_cases hx : x.1 = k
      · have hr' : r = true := hiff.2 (by rw [hx])
        refine .inr ⟨0, e, ?_, rfl, by rw [hk, hx], ?_, ?_, by simp⟩
        · simp [Instr.findNow, hk, hr, hr']
        · simp [aget, hx, hv]
        · simp [← hx, hv]
      · have hr' : r = false := by
          cases r with
          | false => rfl
          | true => exact absurd (K.inj _ _ (hiff.1 rfl)).symm hx
        rcases ih L (n + 1) hL with ⟨h1, h2⟩ | ⟨j, e', h1, h2, h3, h4, h5, h6⟩
        · refine .inl ⟨by simp [Instr.findNow, hk, hr, hr', h1], ?_⟩
          simpa [aget, hx] using h2
        · refine .inr ⟨j + 1, e', ?_, by simpa using h2, h3, ?_, by simpa using h5, ?_⟩
          · simp [Instr.findNow, hk, hr, hr', h1]; omega
          · simpa [aget, hx] using h4
          · intro i hi y hy
            cases i with
            | zero => simp at hy; rw [← hy]; exact hx
            | succ i => exact h6 i (by omega) y (by simpa using hy)

theorem KMap.lookup {P : Program} {t kt et : TypeId} {d : TypeDesc} {enc : κ → Value} (K : KeyEnc P kt d enc) (ht : P.underlying t = some (.map kt et)) {w : World} {m : Nat} {L : List (κ × Value)} (h : KMap enc w m L) (k : κ) (z : Value)
    (hz : (zeroValue et).run P w = .ok z w) :
    (Instr.lookup t (.map (some m)) (enc k) true).run P w = .ok (.tuple #[(aget L k).getD z, .bool (aget L k).isSome]) w ∧
    (Instr.lookup t (.map (some m)) (enc k) false).run P w = .ok ((aget L k).getD z) w := by
  obtain ⟨es, ck, hb, hst, hL⟩ := h
  have hc := run_checkKey (P := P) (w := w) K.kind (K.key k) es.isEmpty 9999
  rcases find_at K k hL with ⟨h1, h2⟩ | ⟨j, e, h1, _, _, h4, _, _⟩
  · have hf := run_findKey (P := P) (w := w) K.kind h1
    constructor <;> simp [Instr.lookup, run_underlying ht, MapKept.run_getObj_map hb, hc, hf, hz, h2, Result.andThen]
  · have hf := run_findKey (P := P) (w := w) K.kind h1
    constructor <;> simp [Instr.lookup, run_underlying ht, MapKept.run_getObj_map hb, hc, hf, h4, Result.andThen]

theorem KMap.len {P : Program} {t kt et ty : TypeId} {enc : κ → Value} (ht : P.underlying t = some (.map kt et)) {w : World} {m : Nat} {L : List (κ × Value)} (h : KMap enc w m L) :
    (Builtin.len_ #[t] ty #[.map (some m)]).run P w = .ok (.int .i64 L.length) w := by
  obtain ⟨es, ck, hb, hst, hL⟩ := h
  have hl : es.size = L.length := by have := congrArg List.length hL; simpa using this
  simp [Builtin.len_, run_underlying ht, MapKept.run_getObj_map hb, Result.andThen, goInt, hl]

theorem KMap.update {P : Program} {t kt et : TypeId} {d : TypeDesc} {enc : κ → Value} (K : KeyEnc P kt d enc) (ht : P.underlying t = some (.map kt et)) {w : World} {m : Nat} {L : List (κ × Value)} (h : KMap enc w m L) (k : κ) (v : Value) :
    ∃ o, (Instr.mapUpdate t (.map (some m)) (enc k) v).run P w = .ok () { w with heap := w.heap.setIfInBounds m o } ∧ KMap enc { w with heap := w.heap.setIfInBounds m o } m (aset L k v) := by
  obtain ⟨es, ck, hb, hst, hL⟩ := h
  have hc := run_checkKey (P := P) (w := w) K.kind (K.key k) false 9999
  rcases find_at K k hL with ⟨h1, h2⟩ | ⟨j, e, h1, hj, hke, h4, hLj, hlt⟩
  · have hf := run_findKey (P := P) (w := w) K.kind h1
    refine ⟨.map (es.push { key := enc k, val := v, born := ck }) (ck + 1), ?_, ?_⟩
    · simp [Instr.mapUpdate, run_underlying ht, MapKept.run_getObj_map hb, hc, hf, MapKept.run_setObj_map _ hb, Result.andThen]
    · refine ⟨_, _, (heap_set hb).1, stamped_push hst ?_, ?_⟩
      · intro x hx e
        have hn : ∀ y ∈ L, y.1 ≠ k := by
          intro y hy hyk
          simp only [aget, Option.map_eq_none_iff, List.find?_eq_none] at h2
          exact h2 y hy (by simpa using hyk)
        have : (x.key, x.val) ∈ L.map (fun x => (enc x.1, x.2)) := hL ▸ List.mem_map.2 ⟨x, hx, rfl⟩
        obtain ⟨y, hy, hyx⟩ := List.mem_map.1 this
        exact hn y hy (K.inj _ _ ((Prod.mk.inj hyx).1.trans e))
      · simp [aset, h2, hL]
  · have hf := run_findKey (P := P) (w := w) K.kind h1
    have hjs : j < es.size := by simpa using (List.getElem?_eq_some_iff.1 hj).1
    have hej : es[j]? = some e := by simpa using hj
    refine ⟨.map (es.modify j fun e => { e with key := enc k, val := v }) ck, ?_, ?_⟩
    · have hks : ((es[j]?.map (·.key)).getD (enc k)) = enc k := by simp [hej, hke]
      simp [Instr.mapUpdate, run_underlying ht, MapKept.run_getObj_map hb, hc, hf, MapKept.run_setObj_map _ hb, Result.andThen, hej, hke, run_keyThatStays (K.key k)]
    · refine ⟨_, _, (heap_set hb).1, stamped_modify hst j _ (fun _ _ => rfl) ?_, ?_⟩
      · intro e' _ he'
        rw [hej] at he'; cases he'; exact hke.symm
      · have hnd : (L.map (·.1)).Nodup := KMap.nodup K ⟨es, ck, hb, hst, hL⟩
        apply List.ext_getElem?
        intro i
        have hLi := congrArg (fun l => l[i]?) hL
        simp only [List.getElem?_map, Array.getElem?_toList] at hLi
        simp only [aset, h4, Option.isSome_some, if_true, List.getElem?_map, Array.getElem?_toList, Array.getElem?_modify]
        by_cases hij : j = i
        · subst hij
          simp [hej, hLj]
        · rw [if_neg hij]
          cases hl : L[i]? with
          | none => rw [hl] at hLi; simpa using hLi
          | some x =>
            have hx : x.1 ≠ k := by
              intro hxk
              have hi' : i < L.length := (List.getElem?_eq_some_iff.1 hl).1
              have hj' : j < L.length := (List.getElem?_eq_some_iff.1 hLj).1
              have := (List.getElem?_inj (l := L.map (·.1)) (i := j) (j := i) (by simpa using hj') hnd).1 (by simp [hl, hLj, hxk])
              exact hij this
            rw [hl] at hLi
            simpa [hx] using hLi

theorem map_eraseIdx' {α β : Type} (f : α → β) : ∀ (l : List α) (i : Nat), (l.eraseIdx i).map f = (l.map f).eraseIdx i
  | [], _ => rfl
  | _ :: _, 0 => rfl
  | x :: l, i + 1 => by simp [map_eraseIdx' f l i]

theorem adel_idx {k : κ} {v : Value} : ∀ {L : List (κ × Value)} {j : Nat}, (L.map (·.1)).Nodup → L[j]? = some (k, v) → adel L k = L.eraseIdx j
  | [], j, _, h => by simp at h
  | x :: L, 0, hn, h => by
    simp only [List.getElem?_cons_zero, Option.some.injEq] at h
    subst h
    simp only [List.map_cons, List.nodup_cons] at hn
    simp only [adel, List.eraseIdx_zero, List.tail_cons]
    rw [List.filter_cons_of_neg (by simp)]
    apply List.filter_eq_self.2
    intro y hy
    simp only [ne_eq, decide_eq_true_eq]
    intro e
    exact hn.1 (List.mem_map.2 ⟨y, hy, e⟩)
  | x :: L, j + 1, hn, h => by
    simp only [List.map_cons, List.nodup_cons] at hn
    have hx : x.1 ≠ k := by
      intro e
      have := List.mem_of_getElem? (by simpa using h : L[j]? = some (k, v))
      exact hn.1 (List.mem_map.2 ⟨_, this, e.symm⟩)
    have ih := adel_idx hn.2 (by simpa using h : L[j]? = some (k, v))
    simp only [adel] at ih ⊢
    rw [List.filter_cons_of_pos (by simpa using hx), ih, List.eraseIdx_cons_succ]

theorem KMap.delete {P : Program} {t kt et ty : TypeId} {d : TypeDesc} {enc : κ → Value} (K : KeyEnc P kt d enc) (ht : P.underlying t = some (.map kt et)) {w : World} {m : Nat} {L : List (κ × Value)} (h : KMap enc w m L) (k : κ) :
    ∃ o, (Builtin.delete_ #[t, kt] ty #[.map (some m), enc k]).run P w = .ok (.tuple #[]) { w with heap := w.heap.setIfInBounds m o } ∧ KMap enc { w with heap := w.heap.setIfInBounds m o } m (adel L k) := by
  have hnd : (L.map (·.1)).Nodup := KMap.nodup K h
  obtain ⟨es, ck, hb, hst, hL⟩ := h
  have hc := run_checkKey (P := P) (w := w) K.kind (K.key k) es.isEmpty 9999
  rcases find_at K k hL with ⟨h1, h2⟩ | ⟨j, e, h1, hj, hke, h4, hLj, hlt⟩
  · have hf := run_findKey (P := P) (w := w) K.kind h1
    refine ⟨.map es ck, ?_, ?_⟩
    · simp [Builtin.delete_, run_underlying ht, MapKept.run_getObj_map hb, hc, hf, MapKept.run_setObj_map _ hb, Result.andThen]
    · refine ⟨_, _, (heap_set hb).1, hst, ?_⟩
      rw [hL]
      congr 1
      symm
      apply List.filter_eq_self.2
      intro y hy
      simp only [aget, Option.map_eq_none_iff, List.find?_eq_none] at h2
      have := h2 y hy
      simpa using this
  · have hf := run_findKey (P := P) (w := w) K.kind h1
    have hjs : j < es.size := by simpa using (List.getElem?_eq_some_iff.1 hj).1
    refine ⟨.map (es.eraseIdxIfInBounds j) ck, ?_, ?_⟩
    · simp [Builtin.delete_, run_underlying ht, MapKept.run_getObj_map hb, hc, hf, MapKept.run_setObj_map _ hb, Result.andThen]
    · refine ⟨_, _, (heap_set hb).1, stamped_erase hst j, ?_⟩
      have hdel : adel L k = L.eraseIdx j := adel_idx hnd hLj
      rw [hdel]
      unfold Array.eraseIdxIfInBounds
      rw [dif_pos hjs]
      simp only [Array.toList_eraseIdx, map_eraseIdx', hL]
theorem KMap.update2 {P : Program} {t kt et : TypeId} {d : TypeDesc} {enc : κ → Value} (K : KeyEnc P kt d enc) (ht : P.underlying t = some (.map kt et)) {w : World} {m : Nat} {L : List (κ × Value)} (h : KMap enc w m L) (k : κ) (v : Value) :
    ∃ w', (Instr.mapUpdate t (.map (some m)) (enc k) v).run P w = .ok () w' ∧ KMap enc w' m (aset L k v) ∧ Kp (fun b => b ≠ m) w w' := by
  obtain ⟨o, h1, h2⟩ := h.update K ht k v
  exact ⟨_, h1, h2, (Kp.refl _ w).setHeap (fun _ h => h rfl) _⟩

/-! at the operation -/
section
variable {P : Program} {ops : Array Oper} {K : Act → World → Prop} {rest : List Oper} {o : Oper} {a : Act} {Q : Exit → Act → World → Prop} {w : World} {t kt et : TypeId} {d : TypeDesc} {enc : κ → Value} {m : Nat} {L : List (κ × Value)}
theorem wp_lookup_ok (KE : KeyEnc P kt d enc) (ht : P.underlying t = some (.map kt et)) (h : KMap enc w m L) (k : κ) {z v : Value} (hz : (zeroValue et).run P w = .ok z w) (hv : (aget L k).getD z = v) {b : Bool} (hb : (aget L k).isSome = b) (mo xo : Operand)
    (hop : o.op = Op.lookup t mo xo true) (hm : a.eval mo = .map (some m)) (hx : a.eval xo = enc k) (hK : K (a.put o.dst (.tuple #[v, .bool b])) w) : o.wp P a w K Q := by
  unfold Oper.wp execOp
  simp only [hop, hm, hx, Sem.run_bind, (h.lookup KE ht k z hz).1, hv, hb, Result.andThen_ok]
  exact hK
theorem wpList_lookup_ok (KE : KeyEnc P kt d enc) (ht : P.underlying t = some (.map kt et)) (h : KMap enc w m L) (k : κ) {z v : Value} (hz : (zeroValue et).run P w = .ok z w) (hv : (aget L k).getD z = v) {b : Bool} (hb : (aget L k).isSome = b) (hg : o.guard = none) (mo xo : Operand)
    (hop : o.op = Op.lookup t mo xo true) (hm : a.eval mo = .map (some m)) (hx : a.eval xo = enc k) (hK : wpList P ops Q rest (a.put o.dst (.tuple #[v, .bool b])) w) : wpList P ops Q (o :: rest) a w :=
  wpList_plain hg fun K2 hK2 => wp_lookup_ok KE ht h k hz hv hb mo xo hop hm hx (hK2 _ _ hK)
theorem wp_lookup_val (KE : KeyEnc P kt d enc) (ht : P.underlying t = some (.map kt et)) (h : KMap enc w m L) (k : κ) {z v : Value} (hz : (zeroValue et).run P w = .ok z w) (hv : (aget L k).getD z = v) (mo xo : Operand)
    (hop : o.op = Op.lookup t mo xo false) (hm : a.eval mo = .map (some m)) (hx : a.eval xo = enc k) (hK : K (a.put o.dst v) w) : o.wp P a w K Q := by
  unfold Oper.wp execOp
  simp only [hop, hm, hx, Sem.run_bind, (h.lookup KE ht k z hz).2, hv, Result.andThen_ok]
  exact hK
theorem wpList_lookup_val (KE : KeyEnc P kt d enc) (ht : P.underlying t = some (.map kt et)) (h : KMap enc w m L) (k : κ) {z v : Value} (hz : (zeroValue et).run P w = .ok z w) (hv : (aget L k).getD z = v) (hg : o.guard = none) (mo xo : Operand)
    (hop : o.op = Op.lookup t mo xo false) (hm : a.eval mo = .map (some m)) (hx : a.eval xo = enc k) (hK : wpList P ops Q rest (a.put o.dst v) w) : wpList P ops Q (o :: rest) a w :=
  wpList_plain hg fun K2 hK2 => wp_lookup_val KE ht h k hz hv mo xo hop hm hx (hK2 _ _ hK)
theorem wp_maplen (ht : P.underlying t = some (.map kt et)) (h : KMap enc w m L) (mo : Operand) (hop : o.op = .call { callee := .builtin .len, args := #[mo], argTypes := #[t] }) (hm : a.eval mo = .map (some m))
    (hK : K (a.put o.dst (.int .i64 L.length)) w) : o.wp P a w K Q := by
  unfold Oper.wp execOp
  simp only [hop, resolve, invoke, builtin, List.map_toArray, List.map_cons, List.map_nil, hm, Sem.run_bind, Sem.run_pure, KMap.len (ty := o.type) ht h, Result.andThen_ok]
  exact hK
theorem wpList_maplen (ht : P.underlying t = some (.map kt et)) (h : KMap enc w m L) (hg : o.guard = none) (mo : Operand) (hop : o.op = .call { callee := .builtin .len, args := #[mo], argTypes := #[t] }) (hm : a.eval mo = .map (some m))
    (hK : wpList P ops Q rest (a.put o.dst (.int .i64 L.length)) w) : wpList P ops Q (o :: rest) a w :=
  wpList_plain hg fun K2 hK2 => wp_maplen ht h mo hop hm (hK2 _ _ hK)
theorem wp_mapset (KE : KeyEnc P kt d enc) (ht : P.underlying t = some (.map kt et)) (h : KMap enc w m L) (k : κ) (v : Value) (mo xo vo : Operand)
    (hop : o.op = Op.mapUpdate t mo xo vo) (hm : a.eval mo = .map (some m)) (hx : a.eval xo = enc k) (hv : a.eval vo = v) (hK : ∀ w', KMap enc w' m (aset L k v) → Kp (fun b => b ≠ m) w w' → K (a.put o.dst undef) w') : o.wp P a w K Q := by
  obtain ⟨ob, hr, hn⟩ := h.update KE ht k v
  unfold Oper.wp execOp
  simp only [hop, hm, hx, hv, Sem.run_bind, hr, Result.andThen_ok]
  exact (hK _ hn ((Kp.refl _ w).setHeap (fun _ h => h rfl) _))
theorem wpList_mapset (KE : KeyEnc P kt d enc) (ht : P.underlying t = some (.map kt et)) (h : KMap enc w m L) (k : κ) (v : Value) (hg : o.guard = none) (mo xo vo : Operand)
    (hop : o.op = Op.mapUpdate t mo xo vo) (hm : a.eval mo = .map (some m)) (hx : a.eval xo = enc k) (hv : a.eval vo = v) (hK : ∀ w', KMap enc w' m (aset L k v) → Kp (fun b => b ≠ m) w w' → wpList P ops Q rest (a.put o.dst undef) w') : wpList P ops Q (o :: rest) a w :=
  wpList_plain hg fun K2 hK2 => wp_mapset KE ht h k v mo xo vo hop hm hx hv fun w' h1 h2 => hK2 _ _ (hK w' h1 h2)
theorem wp_mapdel (KE : KeyEnc P kt d enc) (ht : P.underlying t = some (.map kt et)) (h : KMap enc w m L) (k : κ) (mo xo : Operand)
    (hop : o.op = .call { callee := .builtin .delete, args := #[mo, xo], argTypes := #[t, kt] }) (hm : a.eval mo = .map (some m)) (hx : a.eval xo = enc k) (hK : ∀ w', KMap enc w' m (adel L k) → Kp (fun b => b ≠ m) w w' → K (a.put o.dst (.tuple #[])) w') : o.wp P a w K Q := by
  obtain ⟨ob, hr, hn⟩ := h.delete (ty := o.type) KE ht k
  unfold Oper.wp execOp
  simp only [hop, resolve, invoke, builtin, List.map_toArray, List.map_cons, List.map_nil, hm, hx, Sem.run_bind, Sem.run_pure, hr, Result.andThen_ok]
  exact (hK _ hn ((Kp.refl _ w).setHeap (fun _ h => h rfl) _))
theorem wpList_mapdel (KE : KeyEnc P kt d enc) (ht : P.underlying t = some (.map kt et)) (h : KMap enc w m L) (k : κ) (hg : o.guard = none) (mo xo : Operand)
    (hop : o.op = .call { callee := .builtin .delete, args := #[mo, xo], argTypes := #[t, kt] }) (hm : a.eval mo = .map (some m)) (hx : a.eval xo = enc k) (hK : ∀ w', KMap enc w' m (adel L k) → Kp (fun b => b ≠ m) w w' → wpList P ops Q rest (a.put o.dst (.tuple #[])) w') : wpList P ops Q (o :: rest) a w :=
  wpList_plain hg fun K2 hK2 => wp_mapdel KE ht h k mo xo hop hm hx fun w' h1 h2 => hK2 _ _ (hK w' h1 h2)
end
end maps

/-! ### Slices -/
/-- A row of cells at a place. -/
def Rd (b o : Nat) (xs : List Value) (w : World) : Prop := ∀ j u, xs[j]? = some u → w.cell? ⟨b, o + j, none⟩ = some u
/-- A slice's header, and the cells of its n elements. -/
def Sl (A : Option Addr) (n c sz : Nat) (xs : List Value) (w : World) : Prop := xs.length = n * sz ∧ n ≤ c ∧ (0 < n → ∃ b o, A = some ⟨b, o, none⟩ ∧ Rd b o xs w)

theorem add_lit0 (b o j : Nat) : (⟨b, o, none⟩ : Addr).add j = ⟨b, o + j, none⟩ := by unfold Addr.add; split <;> simp_all

theorem sl_own {base e sz n : Nat} {v : Value} {xs : List Value} {w : World} (h : w.ownsRow base e sz v n xs) : ∃ A c, v = .slice A n c ∧ Foot (fun b => some b = v.ownBlock) (Sl A n c sz xs) w := by
  obtain ⟨h1, h2⟩ := h
  rcases h2 with ⟨rfl, rfl⟩ | ⟨g, cap, cur, rfl, hb, hh, hn, hc, hs, ht⟩
  · exact ⟨none, 0, rfl, fun u _ => ⟨h1, Nat.le_refl _, fun h => absurd h (by omega)⟩⟩
  · refine ⟨_, _, rfl, fun u hu => ⟨h1, hn, fun _ => ⟨g, 0, rfl, fun j x hj => ?_⟩⟩⟩
    have hg := hu.heap hh (by simp [Value.ownBlock])
    rw [← ht, List.getElem?_take] at hj
    rw [blk_cell hg, Nat.zero_add]
    split at hj
    · rw [← hj]; simp
    · cases hj

/-- A slice type, its element's type, cells and bytes an element, the zero value. -/
structure El (P : Program) (t e sz by_ : Nat) (z : Value) : Prop where
  sl : P.underlying t = some (.slice e)
  info : (P.info? e).map (fun i => (i.zero, i.size, i.bytes)) = some (some z, sz, by_)
  cells : z.cells.size = sz
  pos : 0 < sz
  wide : 0 < by_

/-- append of a slice onto a row of one's own. -/
theorem run_app {P : Program} {w : World} {base t e sz by_ : Nat} {z : Value} (E : El P t e sz by_ z) (ty : TypeId) {v : Value} {n : Nat} {xs : List Value} (hown : w.ownsRow base e sz v n xs)
    {A : Option Addr} {m c : Nat} {news : List Value} (hx : Sl A m c sz news w) (h1 : ∀ u ∈ news, u.oneCell' = true) (hb : (n + m) * by_ ≤ 140737488355328) (hbase : base ≤ w.heap.size) :
    ∃ v' w', (Builtin.append_ #[t, t] ty #[v, .slice A m c]).run P w = .ok v' w' ∧ w'.ownsRow base e sz v' (n + m) (xs ++ news) ∧ w.grownBy w' v.ownBlock ∧ (v'.ownBlock = v.ownBlock ∨ v'.ownBlock = some w.heap.size) ∧ (v' = .slice none 0 0 ↔ v = .slice none 0 0 ∧ m = 0) := by
  obtain ⟨i, hi, hz, hs, hby⟩ := info_parts E.info
  have hle : n + m ≤ (n + m) * by_ := Nat.le_mul_of_pos_right _ E.wide
  have h63 : n + m ≤ maxLen := by simp only [maxLen]; omega
  cases A with
  | some a =>
    have hnews : ∀ j u, news[j]? = some u → w.cell? (a.add j) = some u := by
      intro j u hj
      have hm : 0 < m := by
        rcases Nat.eq_zero_or_pos m with h0 | h0
        · exfalso
          have hn : news = [] := List.eq_nil_of_length_eq_zero (by rw [hx.1, h0, Nat.zero_mul])
          rw [hn] at hj; cases hj
        · exact h0
      obtain ⟨b, o, ha, hr⟩ := hx.2.2 hm
      cases ha
      rw [add_lit0]
      exact hr j u hj
    obtain ⟨v', w', hr, h2, h3, h4, h5⟩ := run_append_own_at (P := P) w base t ty e i z sz by_ E.sl hi hz hs hby E.cells E.pos v n xs hown a m c news hx.1 hnews h1 h63 hb hbase
    exact ⟨v', w', hr, h2, h3, h5, h4⟩
  | none =>
    have hm : m = 0 := by
      rcases Nat.eq_zero_or_pos m with h0 | h0
      · exact h0
      · obtain ⟨_, _, ha, _⟩ := hx.2.2 h0; cases ha
    subst hm
    have hn : news = [] := List.eq_nil_of_length_eq_zero (by rw [hx.1, Nat.zero_mul])
    subst hn
    rcases hown.2 with ⟨rfl, rfl⟩ | ⟨g, cap, cur, rfl, hbg, hg, hnc, hcm, hcs, htake⟩
    · refine ⟨.slice none 0 0, w, ?_, by simpa using hown, ⟨rfl, rfl, rfl, Nat.le_refl _, fun _ _ _ => rfl⟩, .inl rfl, by simp⟩
      simp [Builtin.append_, run_underlying E.sl, sizeOf, typeInfo, hi, Builtin.lenOf, Builtin.firstCells, loadCells, loadCellsFrom]
    · refine ⟨.slice (some ⟨g, 0, none⟩) n cap, w, ?_, by simpa using hown, ⟨rfl, rfl, rfl, Nat.le_refl _, fun _ _ _ => rfl⟩, .inl rfl, by simp⟩
      simp [Builtin.append_, run_underlying E.sl, sizeOf, typeInfo, hi, Builtin.lenOf, Builtin.firstCells, hnc, storeCells]

theorem wp_app {P : Program} {w : World} {o : Oper} {a : Act} {Q : Exit → Act → World → Prop} {K : Act → World → Prop} {base t e sz by_ : Nat} {z : Value} (E : El P t e sz by_ z) {v : Value} {n : Nat} {xs : List Value} (hown : w.ownsRow base e sz v n xs)
    {A : Option Addr} {m c : Nat} {news : List Value} (hx : Sl A m c sz news w) (h1 : ∀ u ∈ news, u.oneCell' = true) (hb : (n + m) * by_ ≤ 140737488355328) (hbase : base ≤ w.heap.size) (s x : Operand)
    (ho : o.op = .call { callee := .builtin .append, args := #[s, x], argTypes := #[t, t] }) (hs : a.eval s = v) (hxe : a.eval x = .slice A m c)
    (h : ∀ v' w', w'.ownsRow base e sz v' (n + m) (xs ++ news) → w.grownBy w' v.ownBlock → (v'.ownBlock = v.ownBlock ∨ v'.ownBlock = some w.heap.size) → (v' = .slice none 0 0 ↔ v = .slice none 0 0 ∧ m = 0) → K (a.put o.dst v') w') :
    o.wp P a w K Q := by
  obtain ⟨v', w', hr, h2, h3, h4, h5⟩ := run_app (P := P) E o.type hown hx h1 hb hbase
  unfold Oper.wp execOp
  simp only [ho, resolve, invoke, builtin, Sem.run_bind, Sem.run_pure, Result.andThen_ok, List.map_toArray, List.map_cons, List.map_nil, hs, hxe, hr]
  exact h v' w' h2 h3 h4 h5

theorem wpList_app {P : Program} {w : World} {ops : Array Oper} {rest : List Oper} {o : Oper} {a : Act} {Q : Exit → Act → World → Prop} {base t e sz by_ : Nat} {z : Value} (E : El P t e sz by_ z) {v : Value} {n : Nat} {xs : List Value} (hown : w.ownsRow base e sz v n xs)
    {A : Option Addr} {m c : Nat} {news : List Value} (hx : Sl A m c sz news w) (h1 : ∀ u ∈ news, u.oneCell' = true) (hb : (n + m) * by_ ≤ 140737488355328) (hbase : base ≤ w.heap.size) (hgd : o.guard = none) (s x : Operand)
    (ho : o.op = .call { callee := .builtin .append, args := #[s, x], argTypes := #[t, t] }) (hs : a.eval s = v) (hxe : a.eval x = .slice A m c)
    (h : ∀ v' w', w'.ownsRow base e sz v' (n + m) (xs ++ news) → w.grownBy w' v.ownBlock → (v'.ownBlock = v.ownBlock ∨ v'.ownBlock = some w.heap.size) → (v' = .slice none 0 0 ↔ v = .slice none 0 0 ∧ m = 0) → wpList P ops Q rest (a.put o.dst v') w') :
    wpList P ops Q (o :: rest) a w := by
  exact wpList_plain hgd fun K hK => wp_app E hown hx h1 hb hbase s x ho hs hxe fun v' w' h1 h2 h3 h4 => hK _ _ (h v' w' h1 h2 h3 h4)

theorem run_build0 {P : Program} {w : World} {t e sz by_ : Nat} {z : Value} (E : El P t e sz by_ z) : (Instr.buildSlice t 0 #[]).run P w = .ok (.slice (some ⟨w.heap.size, 0, none⟩) 0 0) (w.alloc (.cells #[] e)) := by
  obtain ⟨i, hi, hz, hs, hby⟩ := info_parts E.info
  simp [Instr.buildSlice, run_underlying E.sl, sizeOf, typeInfo, hi, newRow, Instr.fill, show (Array.range 0) = #[] from by decide]
theorem own_build0 {w : World} {e sz base : Nat} (hb : base ≤ w.heap.size) : (w.alloc (.cells #[] e)).ownsRow base e sz (.slice (some ⟨w.heap.size, 0, none⟩) 0 0) 0 [] := World.ownsRow_made w #[] 0 hb (by simp [maxLen]) (by simp)

/-! ### Structs held against each other -/
section
variable {P : Program} {d : Nat} {xs ys : Array Value} {f : Field} {fs : List Field} {a b : Value} {r s : Bool} {w : World}
theorem eqf_cons (hn : (f.name == "_") = false) (ha : (part f.type xs f.offset).run P w = .ok a w) (hb : (part f.type ys f.offset).run P w = .ok b w) (he : (Op.equalIn d f.type a b).run P w = .ok r w) (hr : (Op.eqFields d xs ys fs).run P w = .ok s w) : (Op.eqFields d xs ys (f :: fs)).run P w = .ok (r && s) w := by
  have hn' : f.name ≠ "_" := by simpa using hn
  rw [Op.eqFields]
  simp only [if_pos hn', Sem.run_bind, ha, hb, he, Result.andThen_ok]
  cases r
  · simp
  · simpa using hr
theorem eqf_nil : (Op.eqFields d xs ys []).run P w = .ok true w := by simp [Op.eqFields]
theorem eq_of_fields {t : TypeId} {fs : Array Field} (hu : P.underlying t = some (.struct fs)) (hp : P.stoodInHeld t = false) (h : (Op.eqFields d xs ys fs.toList).run P w = .ok r w) : (Op.equalIn (d + 1) t (.agg xs) (.agg ys)).run P w = .ok r w := by
  have hf : P.fieldsOf t = fs := by simp [Program.fieldsOf, hu]
  rw [run_equalIn_struct (P := P) w d t xs ys (by rw [hf]; exact hu) hp, hf]
  exact h
end

theorem run_max2 {P : Program} (w : World) (t ty : TypeId) (k : IntKind) (a b : Int) : (Builtin.max_ #[t, t] ty #[.int k a, .int k b]).run P w = .ok (.int k (max a b)) w := by
  have h : (if b > a then b else a) = max a b := by rw [Int.max_def]; split <;> split <;> omega
  simp [Builtin.max_, Builtin.max2]
  simpa using h
theorem run_min2 {P : Program} (w : World) (t ty : TypeId) (k : IntKind) (a b : Int) : (Builtin.min_ #[t, t] ty #[.int k a, .int k b]).run P w = .ok (.int k (min a b)) w := by
  have h : (if b < a then b else a) = min a b := by rw [Int.min_def]; split <;> split <;> omega
  simp [Builtin.min_, Builtin.min2]
  simpa using h
end Go.Proofs.YtodledidabdkaaaGreatDoor

namespace Go.RegionLast
open Go

/-- The last operation waits for all others, and each other one for elder ones alone. -/
def dep (l : List Oper) (k j : Nat) : Bool := (l[k]?).any fun o => o.after.any fun e => Region.binds .any e && e.on == j
/-- Every operation between j and n is waited for by n, some way. -/
def cov (l : List Oper) (n : Nat) : Nat → List Nat → Bool
  | 0, _ => true
  | j + 1, ks => (dep l n j || ks.any fun k => dep l k j) && cov l n j (j :: ks)
def lastB (l : List Oper) (n : Nat) : Bool :=
  (n + 1 == l.length) && (l.all fun o => o.guard.isNone) &&
  ((List.range (n + 1)).all fun j => (l[j]?).all fun o => o.after.all fun e => !Region.binds .any e || decide (e.on < j)) &&
  cov l n n []

/-- What is asked behind the others: the last one. -/
def LastQ (P : Program) (ops : Array Oper) (tl : List Oper) (Q : Exit → Act → World → Prop) : Exit → Act → World → Prop
  | .normal, a, w => wpList P ops Q tl a w
  | e, a, w => Q e a w

variable {P : Program} {Q : Exit → Act → World → Prop}

theorem upon_swap {o : Oper} {a : Act} {w : World} {K K' : Act → World → Prop} {Q Q' : Exit → Act → World → Prop} (hK : ∀ a w, K a w → K' a w) (hQ : ∀ e a w, e ≠ .normal → Q e a w → Q' e a w) (h : Oper.wp P o a w K Q) : Oper.wp P o a w K' Q' := by
  unfold Oper.wp at *
  generalize (execOp a.eval o).run P w = r at *
  cases r with
  | ok n w' =>
    cases n <;> simp only [Oper.upon] at h ⊢
    case value u => exact hK _ _ h
    case skip => exact hK _ _ h
    case defer d => exact hK _ _ h
    case enter f args =>
      refine Calls.mono h fun e w'' he => ?_
      cases e with
      | returned u => exact hK _ _ he
      | panicked c => exact hQ _ _ _ (by simp) he
      | outgrown => exact let ⟨a, w, h⟩ := (he : LetsOut _); (⟨a, w, hQ _ _ _ (by simp) h⟩ : LetsOut _)
    case row row args => exact Rows.mono h fun u w'' he => hK _ _ he
  | halt x w' =>
    cases x <;> simp only [Oper.upon] at h ⊢
    case panic u => exact hQ _ _ _ (by simp) h

theorem wpOp_swap {ops ops' : Array Oper} {i : Nat} {o : Oper} {a : Act} {w : World} {K K' : Act → World → Prop} {Q Q' : Exit → Act → World → Prop} (ho : ops[i]? = some o) (ho' : ops'[i]? = some o) (hg : o.guard = none) (hK : ∀ a w, K a w → K' a w) (hQ : ∀ e a w, e ≠ .normal → Q e a w → Q' e a w)
    (h : wpOp P ops Q i K a w) : wpOp P ops' Q' i K' a w := by
  have hw : ∀ y, Region.wanted o y = true := fun y => by simp [Region.wanted, hg]
  unfold wpOp at *
  simp only [ho, ho', hw, if_true] at h ⊢
  rcases h with h | ⟨h1, h2⟩
  · exact .inl (upon_swap hK hQ h)
  · exact .inr ⟨h1, let ⟨a, w, h⟩ := h2; ⟨a, w, hQ _ _ _ (by simp) h⟩⟩

structure Last (l : List Oper) (n : Nat) : Prop where
  size : l.length = n + 1
  plain : ∀ o ∈ l, o.guard = none
  back : ∀ j o, j ≤ n → l[j]? = some o → ∀ e ∈ o.after, Region.binds .any e = true → e.on < j
  covers : cov l n n [] = true
theorem lastB_spec {l : List Oper} {n : Nat} (h : lastB l n = true) : Last l n := by
  simp only [lastB, Bool.and_eq_true, beq_iff_eq, List.all_eq_true, List.mem_range] at h
  obtain ⟨⟨⟨h1, h2⟩, h3⟩, h4⟩ := h
  refine ⟨h1.symm, fun o ho => by simpa using h2 o ho, fun j o hj ho e he hb => ?_, ?_⟩
  · have := h3 j (by omega)
    rw [ho] at this
    simp only [Option.all_some, Array.all_eq_true_iff_forall_mem] at this
    have := this e he
    simpa [hb] using this
  · exact h4
/-- listed with whatever it waits for -/
def Down (l : List Oper) (n : Nat) (L : Array Bool) : Prop := ∀ j o, j < n → l[j]? = some o → L.getD j false = true → ∀ e ∈ o.after, Region.binds .any e = true → L.getD e.on false = true
theorem dep_spec {l : List Oper} {k j : Nat} (h : dep l k j = true) : ∃ o, l[k]? = some o ∧ ∃ e ∈ o.after, Region.binds .any e = true ∧ e.on = j := by
  unfold dep at h
  cases ho : l[k]? with
  | none => rw [ho] at h; simp at h
  | some o =>
    rw [ho] at h
    simp only [Option.any_some] at h
    rw [Array.any_eq_true'] at h
    obtain ⟨e, he, h⟩ := h
    simp only [Bool.and_eq_true, beq_iff_eq] at h
    exact ⟨o, rfl, e, he, h.1, h.2⟩
theorem cov_spec {l : List Oper} {n : Nat} {L : Array Bool} (hd : Down l n L) (hn : ∀ o, l[n]? = some o → ∀ e ∈ o.after, Region.binds .any e = true → L.getD e.on false = true) :
    ∀ (j : Nat) (ks : List Nat), j ≤ n → (∀ k ∈ ks, k < n ∧ L.getD k false = true) → cov l n j ks = true → ∀ i, i < j → L.getD i false = true
  | 0, _, _, _, _, i, hi => absurd hi (Nat.not_lt_zero i)
  | j + 1, ks, hj, hks, h, i, hi => by
    simp only [cov, Bool.and_eq_true, Bool.or_eq_true] at h
    have h1 : L.getD j false = true := by
      rcases h.1 with h | h
      · obtain ⟨o, ho, e, he, hb, rfl⟩ := dep_spec h
        exact hn o ho e he hb
      · obtain ⟨k, hk, h⟩ := List.any_eq_true.1 h
        obtain ⟨o, ho, e, he, hb, rfl⟩ := dep_spec h
        exact hd k o (hks k hk).1 ho (hks k hk).2 e he hb
    by_cases e : i = j
    · subst e; exact h1
    · exact cov_spec hd hn j (j :: ks) (by omega) (fun k hk => by
        cases hk with
        | head => exact ⟨by omega, h1⟩
        | tail _ hk => exact hks k hk) h.2 i (by omega)

theorem getD_push_lt {L : Array Bool} {i : Nat} (d x : Bool) (h : i < L.size) : (L.push x).getD i d = L.getD i d := by
  simp [Array.getElem?_push_lt, h]
theorem getD_push_eq (L : Array Bool) (d x : Bool) : (L.push x).getD L.size d = x := by
  simp

section
variable {l : List Oper} {n : Nat}
theorem take_get {j : Nat} (hj : j < n) : (l.take n).toArray[j]? = l.toArray[j]? := by
  simp [List.getElem?_take, hj]
theorem ready_lt (H : Last l n) {L : Array Bool} (hL : L.size = n) {i : Nat} (hi : i < n) : i ∈ Region.ready .any l.toArray (L.push false) ↔ i ∈ Region.ready .any (l.take n).toArray L := by
  rw [mem_ready, mem_ready, getD_push_lt _ _ (by omega), take_get hi]
  refine and_congr Iff.rfl ⟨?_, ?_⟩
  · rintro ⟨o, ho, h⟩
    refine ⟨o, ho, fun e he hb => ?_⟩
    have := H.back i o (by omega) (by simpa using ho) e he hb
    rw [← getD_push_lt false false (by omega)]
    exact h e he hb
  · rintro ⟨o, ho, h⟩
    refine ⟨o, ho, fun e he hb => ?_⟩
    have := H.back i o (by omega) (by simpa using ho) e he hb
    rw [getD_push_lt false false (by omega)]
    exact h e he hb
theorem ready_init_lt {L : Array Bool} {i : Nat} (hi : i ∈ Region.ready .any (l.take n).toArray L) : i < n := by
  obtain ⟨_, o, ho, _⟩ := mem_ready.1 hi
  simp only [List.getElem?_toArray, List.getElem?_take] at ho
  split at ho
  · assumption
  · cases ho
theorem all_of_none (H : Last l n) {L : Array Bool} (h : Region.ready .any (l.take n).toArray L = []) : ∀ j, j < n → L.getD j true = true := by
  intro j
  induction j using Nat.strongRecOn with
  | ind j ih =>
    intro hj
    cases hL : L.getD j true with
    | true => rfl
    | false =>
      have hlen : j < l.length := by rw [H.size]; omega
      have : j ∈ Region.ready .any (l.take n).toArray L := by
        rw [mem_ready]
        refine ⟨hL, l[j], by simp [List.getElem?_take, hj, hlen], fun e he hb => ?_⟩
        have h1 := H.back j _ (by omega) (List.getElem?_eq_getElem hlen) e he hb
        have h2 := ih e.on h1 (by omega)
        have hsz : e.on < L.size := by
          have hjs : j < L.size := by
            rcases Nat.lt_or_ge j L.size with h | h
            · exact h
            · simp [h] at hL
          omega
        simpa [hsz] using h2
      rw [h] at this
      cases this
theorem ready_last (H : Last l n) {L : Array Bool} (hL : L.size = n) (hd : Down l n L) : n ∈ Region.ready .any l.toArray (L.push false) ↔ ∀ j, j < n → L.getD j true = true := by
  obtain ⟨o, ho⟩ : ∃ o, l[n]? = some o := ⟨_, List.getElem?_eq_getElem (by rw [H.size]; omega)⟩
  rw [mem_ready]
  constructor
  · rintro ⟨_, o', ho', h⟩ j hj
    have : o' = o := by simpa [ho] using ho'.symm
    subst this
    have := cov_spec hd (fun o2 ho2 e he hb => by
      have e2 : o2 = o' := by rw [ho] at ho2; exact (Option.some.inj ho2).symm
      subst e2
      have := h e he hb
      rw [getD_push_lt _ _ (by have := H.back n o2 (Nat.le_refl _) ho e he hb; omega)] at this
      exact this) n [] (Nat.le_refl _) (by simp) H.covers j hj
    simpa [show j < L.size from by omega] using this
  · intro h
    refine ⟨by rw [← hL]; simp, o, by simpa using ho, fun e he hb => ?_⟩
    have h1 := H.back n o (Nat.le_refl _) ho e he hb
    have h2 := h e.on h1
    rw [getD_push_lt _ _ (by omega)]
    simpa [show e.on < L.size from by omega] using h2

theorem any_last (H : Last l n) {Q : Exit → Act → World → Prop} : ∀ (fuel : Nat) (L : Array Bool) (a : Act) (w : World), L.size = n → Down l n L →
    wpAny P .any (l.take n).toArray (LastQ P l.toArray (l.drop n) Q) fuel L a w → wpAny P .any l.toArray Q (fuel + 1) (L.push false) a w := by
  obtain ⟨ol, hol⟩ : ∃ o, l[n]? = some o := ⟨_, List.getElem?_eq_getElem (by rw [H.size]; omega)⟩
  have hdrop : l.drop n = [ol] := by
    rw [List.drop_eq_getElem_cons (by rw [H.size]; omega), List.drop_eq_nil_of_le (by rw [H.size]; omega)]
    congr 1
    have := List.getElem?_eq_getElem (l := l) (i := n) (by rw [H.size]; omega)
    rw [this] at hol
    injection hol
  have hgl : ol.guard = none := H.plain ol (List.mem_of_getElem? hol)
  have hwl : ∀ y, Region.wanted ol y = true := fun y => by simp [Region.wanted, hgl]
  have hdone : ∀ (L : Array Bool), L.size = n → (∀ j, j < n → L.getD j true = true) → Region.ready .any l.toArray ((L.push false).setIfInBounds n true) = [] := by
    intro L hL hall
    refine List.eq_nil_iff_forall_not_mem.2 fun j hj => ?_
    obtain ⟨h0, o, ho, _⟩ := mem_ready.1 hj
    have hjn : j < n + 1 := by
      have := (List.getElem?_eq_some_iff.1 (by simpa using ho)).1
      rw [H.size] at this
      exact this
    by_cases hj2 : j = n
    · subst hj2
      simp [hL] at h0
    · rw [getD_set_ne true (Ne.symm hj2), getD_push_lt _ _ (by omega), hall j (by omega)] at h0
      cases h0
  have hlast : ∀ (fuel : Nat) (L : Array Bool) (a : Act) (w : World), L.size = n → (∀ j, j < n → L.getD j true = true) → LastQ P l.toArray (l.drop n) Q .normal a w → wpOp P l.toArray Q n (wpAny P .any l.toArray Q fuel ((L.push false).setIfInBounds n true)) a w := by
    intro fuel L a w hL hall h
    rw [hdrop] at h
    unfold LastQ wpList at h
    simp only [hwl, if_true] at h
    unfold wpOp
    simp only [List.getElem?_toArray, hol, hwl, if_true]
    refine h.imp (fun h => upon_swap (fun a w h => ?_) (fun _ _ _ _ h => h) h) id
    exact wpAny_done (hdone L hL hall) (by simpa [wpList] using h) fuel
  intro fuel
  induction fuel with
  | zero =>
    intro L a w hL hd h
    have hall := all_of_none H h.1
    refine ⟨fun h0 => ?_, fun i hi => ?_⟩
    · have := (ready_last H hL hd).2 hall
      rw [h0] at this
      cases this
    · by_cases hin : i = n
      · subst hin
        exact hlast 0 L a w hL hall h.2
      · have hlt : i < n := by
          obtain ⟨_, o, ho, _⟩ := mem_ready.1 hi
          have := (List.getElem?_eq_some_iff.1 (by simpa using ho)).1
          rw [H.size] at this
          omega
        rw [ready_lt H hL hlt, h.1] at hi
        cases hi
  | succ fuel ih =>
    intro L a w hL hd h
    refine ⟨fun h0 => ?_, fun i hi => ?_⟩
    · by_cases hr : Region.ready .any (l.take n).toArray L = []
      · have := (ready_last H hL hd).2 (all_of_none H hr)
        rw [h0] at this
        cases this
      · obtain ⟨i, hi⟩ := List.exists_mem_of_ne_nil _ hr
        have := (ready_lt H hL (ready_init_lt hi)).2 hi
        rw [h0] at this
        cases this
    · by_cases hin : i = n
      · subst hin
        have hall := (ready_last H hL hd).1 hi
        have hnil : Region.ready .any (l.take i).toArray L = [] := by
          refine List.eq_nil_iff_forall_not_mem.2 fun j hj => ?_
          have h1 := (mem_ready.1 hj).1
          rw [hall j (ready_init_lt hj)] at h1
          cases h1
        exact hlast _ L a w hL hall (h.1 hnil)
      · have hlt : i < n := by
          obtain ⟨_, o, ho, _⟩ := mem_ready.1 hi
          have := (List.getElem?_eq_some_iff.1 (by simpa using ho)).1
          rw [H.size] at this
          omega
        have hi' := (ready_lt H hL hlt).1 hi
        obtain ⟨o, ho⟩ : ∃ o, l[i]? = some o := ⟨_, List.getElem?_eq_getElem (by rw [H.size]; omega)⟩
        refine wpOp_swap (ops := (l.take n).toArray) (by simpa [List.getElem?_take, hlt] using ho) (by simpa using ho) (H.plain o (List.mem_of_getElem? ho)) (fun a w h => ?_) (fun e a w he h => ?_) (h.2 i hi')
        · have h2 := ih (L.setIfInBounds i true) a w (by simpa using hL) (fun j oj hj hoj hlj e he hb => by
            by_cases hei : i = e.on
            · subst hei
              simp [show e.on < L.size from by omega]
            · rw [getD_set_ne false hei]
              by_cases hji : i = j
              · subst hji
                obtain ⟨_, o2, ho2, h2⟩ := mem_ready.1 hi'
                have e2 : o2 = oj := by
                  rw [take_get hlt] at ho2
                  simp only [List.getElem?_toArray] at ho2
                  rw [hoj] at ho2
                  exact (Option.some.inj ho2).symm
                subst e2
                exact h2 e he hb
              · rw [getD_set_ne false hji] at hlj
                exact hd j oj hj hoj hlj e he hb) h
          have e1 : (L.setIfInBounds i true).push false = (L.push false).setIfInBounds i true := by
            apply Array.ext_getElem?
            intro j
            simp only [Array.getElem?_push, Array.getElem?_setIfInBounds, Array.size_setIfInBounds, Array.size_push]
            by_cases e1 : j = L.size
            · subst e1
              have : i ≠ L.size := by omega
              simp [this]
            · by_cases e2 : i = j
              · subst e2
                simp [e1, show i < L.size from by omega, show i < L.size + 1 from by omega]
              · simp [e1, e2]
          rw [← e1]
          exact h2
        · cases e <;> first | exact absurd rfl he | exact h
theorem wp_region_last {id : Nat} {a : Act} {w : World} (hm : P.follows .mixedOrders = true) (n : Nat) (hB : lastB l n = true)
    (h : wpAny P .any (l.take n).toArray (LastQ P l.toArray (l.drop n) Q) n (Array.replicate n false) a { w with drawn := w.drawn + 1 }) : (Code.region id l.toArray true).wp P Q a w := by
  have H := lastB_spec hB
  refine wp_region_any hm ?_
  have := any_last H n (Array.replicate n false) a _ (by simp) (fun j o hj ho hl => by simp [hj] at hl) h
  rw [show l.toArray.size = n + 1 from by simp [H.size], Array.replicate_succ]
  exact this

theorem wp_region_last_quiet {id : Nat} {a : Act} {w : World} (hm : P.follows .mixedOrders = true) (n : Nat) (hB : lastB l n = true) (hq : Region.lexB .any (l.take n).toArray = true)
    (h : wpQuiet P (l.take n).toArray (fun w' => ∃ n, w' = w.drewN n) (fun a' => ∀ w', (∃ n, w' = w.drewN n) → wpList P l.toArray Q (l.drop n) a' w') (l.take n) a) : (Code.region id l.toArray true).wp P Q a w := by
  have H := lastB_spec hB
  refine wp_region_last hm n hB ?_
  simp only [Region.lexB, Bool.and_eq_true] at hq
  have hlen : (l.take n).length = n := by rw [List.length_take, H.size]; omega
  refine wpAny_of_quiet (C := fun w' => ∃ n, w' = w.drewN n) (Q := fun a' => ∀ w', (∃ n, w' = w.drewN n) → wpList P l.toArray Q (l.drop n) a' w') (fun _ w' hw' h => h w' hw') _ _ _ _ ⟨1, rfl⟩ ?_
  have := wpAnyQ_lex (C := fun w' => ∃ n, w' = w.drewN n) (md := .any) hq.1 (l.take n) 0 (Array.replicate n false) a (by simp) (by rw [hlen]; simpa [hlen] using hq.2) h
  rw [hlen] at this
  exact this

/-- .. the last one found by itself. -/
theorem wp_region_end_quiet {id : Nat} {a : Act} {w : World} (hm : P.follows .mixedOrders = true) (hB : lastB l (l.length - 1) = true) (hq : Region.lexB .any (l.take (l.length - 1)).toArray = true)
    (h : wpQuiet P (l.take (l.length - 1)).toArray (fun w' => ∃ n, w' = w.drewN n) (fun a' => ∀ w', (∃ n, w' = w.drewN n) → wpList P l.toArray Q (l.drop (l.length - 1)) a' w') (l.take (l.length - 1)) a) : (Code.region id l.toArray true).wp P Q a w :=
  wp_region_last_quiet hm _ hB hq h

theorem wp_region_end_held {id : Nat} {a : Act} {w : World} {S : World → Prop} (hm : P.follows .mixedOrders = true) (hB : lastB l (l.length - 1) = true) (hS : S w.drew)
    (h : S w.drew → wpAnyH P .any (l.take (l.length - 1)).toArray (LastQ P l.toArray (l.drop (l.length - 1)) Q) S (l.length - 1) (Array.replicate (l.length - 1) false) a w.drew) : (Code.region id l.toArray true).wp P Q a w :=
  wp_region_last hm _ hB (wpAny_of_held _ _ _ _ (h hS))
theorem wp_region_last_held {id : Nat} {a : Act} {w : World} {S : World → Prop} (hm : P.follows .mixedOrders = true) (n : Nat) (hB : lastB l n = true) (hS : S w.drew)
    (h : S w.drew → wpAnyH P .any (l.take n).toArray (LastQ P l.toArray (l.drop n) Q) S n (Array.replicate n false) a w.drew) : (Code.region id l.toArray true).wp P Q a w :=
  wp_region_last hm n hB (wpAny_of_held _ _ _ _ (h hS))
end

end Go.RegionLast

namespace Go.Proofs.YtodledidabdkaaaGreatDoor
open Go.RowKit
set_option linter.unusedVariables false
theorem el8 : El Tryz.prog 48 5 1 1 (.int .u8 0) := ⟨Tryz.underlying48, by kernel_rfl, rfl, by decide, by decide⟩
abbrev By := List UInt8
def u8s (l : By) : List Value := l.map fun x => .int .u8 x.toNat
theorem u8s_one (l : By) : ∀ u ∈ u8s l, u.oneCell' = true := by
  intro u hu
  obtain ⟨x, _, rfl⟩ := List.mem_map.1 hu
  rfl
@[simp] theorem u8s_len (l : By) : (u8s l).length = l.length := by simp [u8s]
theorem u8s_append (a b : By) : u8s (a ++ b) = u8s a ++ u8s b := by simp [u8s]
theorem u8s_take (a : By) (n : Nat) : u8s (a.take n) = (u8s a).take n := by simp [u8s, List.map_take]

theorem own_at {w : World} {base e sz n : Nat} {v : Value} {xs : List Value} (h : w.ownsRow base e sz v n xs) : (v = .slice none 0 0 ∧ n = 0 ∧ xs = []) ∨ ∃ g cap cur, v = .slice (some ⟨g, 0, none⟩) n cap ∧ w.heap[g]? = some (.cells cur e (0, 0)) ∧ base ≤ g ∧ ∀ j u, xs[j]? = some u → w.cell? ⟨g, j, none⟩ = some u := by
  rcases h.2 with ⟨rfl, rfl⟩ | ⟨g, cap, cur, rfl, hb, hg, hn, hc, hs, ht⟩
  · exact .inl ⟨rfl, rfl, List.eq_nil_of_length_eq_zero (by rw [h.1, Nat.zero_mul])⟩
  · refine .inr ⟨g, cap, cur, rfl, hg, hb, fun j u hj => ?_⟩
    rw [blk_cell hg, ← Array.getElem?_toList]
    rw [← ht, List.getElem?_take] at hj
    split at hj
    · exact hj
    · cases hj
theorem own_shape {w : World} {base e sz n : Nat} {v : Value} {xs : List Value} (h : w.ownsRow base e sz v n xs) : ∃ A c, v = .slice A n c := by
  rcases own_at h with ⟨rfl, rfl, _⟩ | ⟨g, cap, _, rfl, _⟩
  · exact ⟨_, _, rfl⟩
  · exact ⟨_, _, rfl⟩
theorem own_kept {S : Nat → Prop} {w w' : World} {base e sz n : Nat} {v : Value} {xs : List Value} (h : w.ownsRow base e sz v n xs) (k : Kp S w w') (hs : ∀ b, v.ownBlock = some b → S b) : w'.ownsRow base e sz v n xs := by
  refine ⟨h.1, ?_⟩
  rcases h.2 with hn | ⟨g, cap, cur, rfl, hb, hg, rest⟩
  · exact .inl hn
  · exact .inr ⟨g, cap, cur, rfl, hb, k.heap hg (hs g rfl), rest⟩
theorem own_sl {w : World} {base e n c k : Nat} {A : Option Addr} {xs : List Value} (h : w.ownsRow base e 1 (.slice A n c) n xs) (hk : k ≤ n) : Sl A k c 1 (xs.take k) w ∧ n ≤ c := by
  have hl := h.1
  rcases h.2 with ⟨e1, e2⟩ | ⟨g, cap, cur, e1, _, hg, hn, _⟩
  · injection e1 with eA _ ec
    subst eA ec e2
    obtain rfl : k = 0 := by omega
    exact ⟨⟨by simp, Nat.le_refl _, fun h => absurd h (by omega)⟩, Nat.le_refl _⟩
  · injection e1 with eA _ ec
    subst eA ec
    refine ⟨⟨by rw [List.length_take]; omega, by omega, fun _ => ⟨g, 0, rfl, fun j u hj => ?_⟩⟩, hn⟩
    rw [Nat.zero_add]
    rcases own_at h with ⟨e1, _⟩ | ⟨g', cap', cur', e1, _, _, hat⟩
    · cases e1
    · injection e1 with e1 _ _
      injection e1 with e1
      injection e1 with e1 _ _
      subst e1
      refine hat j u ?_
      rw [List.getElem?_take] at hj
      split at hj
      · exact hj
      · cases hj
theorem sl_new1 (w : World) (a : Value) (t : TypeId) : Sl (some ⟨w.heap.size, 0, none⟩) 1 1 1 [a] (w.alloc (.cells #[a] t)) := by
  refine ⟨rfl, Nat.le_refl _, fun _ => ⟨_, 0, rfl, fun j u hj => ?_⟩⟩
  rw [Nat.zero_add, blk_cell (blk_new w _)]
  simpa using hj
theorem u8_one1 (k : IntKind) (x : Int) : ∀ u ∈ [Value.int k x], u.oneCell' = true := by
  intro u hu
  simp at hu
  subst hu
  rfl
end Go.Proofs.YtodledidabdkaaaGreatDoor
