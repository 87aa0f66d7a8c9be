/- Small laws for the walks of this seat: what a piece of a run keeps, maps with integer keys, slices, appends. No condition. -/
import Derived.Test.YtodledidabdkaaaDoorProg
import Derived.WalkKit
import Derived.KernelRfl
import Derived.WalkLawsBesides
import Derived.WalkSpells
import Derived.MapKept
import Derived.Deep.Draws
import Derived.Maps.AppendAt
import Derived.Lib.AppendStr
import Derived.Lib.SliceRun
import Derived.Deep.RegionHeld3
import Derived.Laws.StructEq
import Derived.Deep.RegionWith
import Derived.Deep.QuietTactic
import Derived.BigQuiet
namespace Go.Proofs.YtodledidabdkaaaDoor
open Go.RowKit Go.MapKept
set_option linter.unusedSectionVars false
set_option linter.unusedSimpArgs false
set_option linter.unusedVariables false

/-! ### What a piece of a run keeps -/


theorem hid {p : Prop} (h : p) : Hid p := h
structure Kp (S : Nat → Prop) (w w' : World) : Prop where
  os : w'.os = w.os
  tape : w'.tape = w.tape
  output : w'.output = w.output
  size : w.heap.size ≤ w'.heap.size
  block : ∀ b, b < w.heap.size → S b → w'.heap[b]? = w.heap[b]?

/-- All blocks. -/
def All : Nat → Prop := fun _ => True

theorem Kp.refl (S : Nat → Prop) (w : World) : Kp S w w := ⟨rfl, rfl, rfl, Nat.le_refl _, fun _ _ _ => rfl⟩
theorem Kp.trans {S : Nat → Prop} {a b c : World} (h : Kp S a b) (k : Kp S b c) : Kp S a c :=
  ⟨k.os.trans h.os, k.tape.trans h.tape, k.output.trans h.output, Nat.le_trans h.size k.size, fun i hi hs => (k.block i (Nat.lt_of_lt_of_le hi h.size) hs).trans (h.block i hi hs)⟩
theorem Kp.mono {S T : Nat → Prop} {a b : World} (h : Kp S a b) (hs : ∀ k, k < a.heap.size → T k → S k) : Kp T a b :=
  ⟨h.os, h.tape, h.output, h.size, fun i hi ht => h.block i hi (hs i hi ht)⟩
theorem Kp.all {T : Nat → Prop} {a b : World} (h : Kp All a b) : Kp T a b := h.mono fun _ _ _ => trivial
/-- What was kept up to a and what the later step kept of the blocks that a had. -/
theorem Kp.then {S T : Nat → Prop} {a b c : World} (h : Kp S a b) (k : Kp T b c) (hs : ∀ i, i < a.heap.size → S i → T i) : Kp S a c :=
  ⟨k.os.trans h.os, k.tape.trans h.tape, k.output.trans h.output, Nat.le_trans h.size k.size, fun i hi hS => (k.block i (Nat.lt_of_lt_of_le hi h.size) (hs i hi hS)).trans (h.block i hi hS)⟩
theorem Kp.of_below {B : Nat} {a b : World} (h : Below B a b) (hB : a.heap.size ≤ B) : Kp All a b :=
  ⟨h.os, h.tape, h.output, h.size, fun i hi _ => h.block i (by omega)⟩
theorem Kp.below {a b : World} (h : Kp All a b) : Below a.heap.size a b := ⟨h.os, h.tape, h.output, h.size, fun i hi => h.block i hi trivial⟩
theorem Kp.grown {a b : World} {row : Option Nat} (h : a.grownBy b row) : Kp (fun k => some k ≠ row) a b := ⟨h.os, h.tape, h.output, h.size, fun i hi hs => h.block i hi hs⟩
theorem Kp.drew {S : Nat → Prop} {a w : World} (h : Kp S a w) : Kp S a w.drew := ⟨h.os, h.tape, h.output, h.size, h.block⟩
theorem Kp.drewN {S : Nat → Prop} {a w : World} (h : Kp S a w) (n : Nat) : Kp S a (w.drewN n) := ⟨h.os, h.tape, h.output, h.size, h.block⟩
theorem Kp.alloc {S : Nat → Prop} {a w : World} (h : Kp S a w) (o : Obj) : Kp S a (w.alloc o) :=
  h.trans ⟨rfl, rfl, rfl, by simp, fun b hb _ => Below.heap_alloc _ _ _ hb⟩
theorem Kp.al (w : World) (o : Obj) : Kp All w (w.alloc o) := (Kp.refl All w).alloc o
theorem Kp.setCell {S : Nat → Prop} {a w : World} (h : Kp S a w) {p : Addr} (hp : p.block < a.heap.size → ¬ S p.block) (u : Value) : Kp S a (w.setCell p u) :=
  ⟨h.os, h.tape, h.output, by simpa using h.size, fun b hb hs => (Below.heap_setCell _ _ _ _ (fun e => hp (e ▸ hb) (e ▸ hs))).trans (h.block b hb hs)⟩
theorem Kp.setNew {S : Nat → Prop} {a w : World} (h : Kp S a w) {b i : Nat} (hp : a.heap.size ≤ b) (u : Value) : Kp S a (w.setCell ⟨b, i, none⟩ u) := h.setCell (fun hb => absurd hb (Nat.not_lt.2 hp)) u
theorem Kp.setOut {S : Nat → Prop} {a w : World} (h : Kp S a w) {b i : Nat} (hp : ¬ S b) (u : Value) : Kp S a (w.setCell ⟨b, i, none⟩ u) := h.setCell (fun _ => hp) u
theorem Kp.setHeap {S : Nat → Prop} {a w : World} (h : Kp S a w) {m : Nat} (hp : m < a.heap.size → ¬ S m) (o : Obj) : Kp S a { w with heap := w.heap.setIfInBounds m o } :=
  ⟨h.os, h.tape, h.output, by simpa using h.size, fun b hb hs => by
    have hne : b ≠ m := fun e => hp (e ▸ hb) (e ▸ hs)
    have := h.block b hb hs
    simpa [Array.getElem?_setIfInBounds, Ne.symm hne] using this⟩
theorem Kp.heap {S : Nat → Prop} {w w' : World} (h : Kp S w w') {b : Nat} {o : Obj} (hb : w.heap[b]? = some o) (hs : S b) : w'.heap[b]? = some o :=
  (h.block b (Array.getElem?_eq_some_iff.1 hb).1 hs).trans hb
theorem Kp.cell {S : Nat → Prop} {w w' : World} (h : Kp S w w') {p : Addr} {v : Value} (hc : w.cell? p = some v) (hs : S p.block) : w'.cell? p = some v :=
  (World.cell?_of_block (h.block p.block (World.block_lt_of_cell? w p hc) hs)).trans hc

theorem blk_lt {w : World} {b : Nat} {o : Obj} (h : w.heap[b]? = some o) : b < w.heap.size := (Array.getElem?_eq_some_iff.1 h).1
theorem blk_cell {w : World} {b : Nat} {cs : Array Value} {t : TypeId} {fz : Nat × Nat} (h : w.heap[b]? = some (.cells cs t fz)) (i : Nat) : w.cell? ⟨b, i, none⟩ = cs[i]? := by
  simp [World.cell?, h]
theorem blk_free {w : World} {b : Nat} {cs : Array Value} {t : TypeId} (h : w.heap[b]? = some (.cells cs t (0, 0))) (i : Nat) : w.frozen? ⟨b, i, none⟩ = false := by
  simp [World.frozen?, h]
theorem blk_new (w : World) (o : Obj) : (w.alloc o).heap[w.heap.size]? = some o := (MapKept.heap_alloc w o).1
theorem blk_alloc {w : World} {b : Nat} {o : Obj} (h : w.heap[b]? = some o) (o' : Obj) : (w.alloc o').heap[b]? = some o := (Below.heap_alloc w o' b (blk_lt h)).trans h
theorem blk_set {w : World} {b : Nat} {cs : Array Value} {t : TypeId} {fz : Nat × Nat} (h : w.heap[b]? = some (.cells cs t fz)) (i : Nat) (v : Value) : (w.setCell ⟨b, i, none⟩ v).heap[b]? = some (.cells (cs.setIfInBounds i v) t fz) := by
  simp [World.setCell, Array.getElem?_modify, h]
theorem blk_far {w : World} {b : Nat} {o : Obj} (h : w.heap[b]? = some o) {p : Addr} (hne : b ≠ p.block) (v : Value) : (w.setCell p v).heap[b]? = some o := (Below.heap_setCell w p v b hne).trans h

/-- P holds, and goes by the blocks of S alone. -/
def Foot (S : Nat → Prop) (P : World → Prop) (w : World) : Prop := ∀ w', Kp S w w' → P w'
theorem Foot.now {S : Nat → Prop} {P : World → Prop} {w : World} (h : Foot S P w) : P w := h w (Kp.refl S w)
theorem Foot.step {S : Nat → Prop} {P : World → Prop} {w w' : World} (h : Foot S P w) (k : Kp S w w') : Foot S P w' := fun u hu => h u (k.trans hu)
theorem Foot.mono {S T : Nat → Prop} {P : World → Prop} {w : World} (h : Foot S P w) (hs : ∀ k, k < w.heap.size → S k → T k) : Foot T P w := fun u hu => h u (hu.mono hs)
theorem Foot.imp {S : Nat → Prop} {P Q : World → Prop} {w : World} (h : Foot S P w) (hi : ∀ u, P u → Q u) : Foot S Q w := fun u hu => hi u (h u hu)

/-! ### An operation whose run is known up to what it answers -/
theorem wpList_event {P : Program} {ops : Array Oper} {rest : List Oper} {o : Oper} {a : Act} {Q : Exit → Act → World → Prop} {w : World} (R : Value → World → Prop)
    (hw : Region.wanted o (yielded ops a.tmps) = true) (h : ∃ v w', (execOp a.eval o).run P w = .ok (.value v) w' ∧ R v w') (hK : ∀ v w', R v w' → wpList P ops Q rest (a.put o.dst v) w') : wpList P ops Q (o :: rest) a w := by
  obtain ⟨v, w', he, hr⟩ := h
  unfold wpList
  rw [if_pos hw]
  refine .inl ?_
  unfold Oper.wp
  rw [he]
  exact hK v w' hr

/-- A law on an operation, in the form that a region's steps have. -/
theorem step_plain {P : Program} {ops : Array Oper} {o : Oper} {a : Act} {w : World} {K : Act → World → Prop} {Q : Exit → Act → World → Prop} {E : Prop} (hg : o.guard = none) (h : o.wp P a w K Q) :
    if Region.wanted o (yielded ops a.tmps) = true then Oper.wp P o a w K Q else E := by
  rw [if_pos (by simp [Region.wanted, hg])]
  exact h

/-! ### Maps whose keys are told at once -/
section maps
variable {κ : Type} [DecidableEq κ]

/-- Keys of a kind, written out. -/
structure KeyEnc (P : Program) (kt : TypeId) (d : TypeDesc) (enc : κ → Value) : Prop where
  kind : P.underlying kt = some d
  key : ∀ k, IsKey d (enc k)
  inj : ∀ j k, enc j = enc k → j = k

/-- Block m is a map of the entries L. -/
def KMap (enc : κ → Value) (w : World) (m : Nat) (L : List (κ × Value)) : Prop :=
  ∃ es ck, w.heap[m]? = some (.map es ck) ∧ Stamped es ck ∧ es.toList.map (fun e => (e.key, e.val)) = L.map (fun x => (enc x.1, x.2))

def aget {β : Type} (L : List (κ × β)) (k : κ) : Option β := (L.find? (fun x => x.1 == k)).map (·.2)
def aset {β : Type} (L : List (κ × β)) (k : κ) (v : β) : List (κ × β) := if (aget L k).isSome then L.map (fun x => if x.1 = k then (k, v) else x) else L ++ [(k, v)]
def adel {β : Type} (L : List (κ × β)) (k : κ) : List (κ × β) := L.filter (fun x => x.1 ≠ k)
theorem aget_map {β γ : Type} (f : β → γ) (L : List (κ × β)) (k : κ) : aget (L.map fun x => (x.1, f x.2)) k = (aget L k).map f := by
  unfold aget
  induction L with
  | nil => rfl
  | cons x L ih =>
    simp only [List.map_cons, List.find?_cons]
    split <;> simp_all
theorem aset_map {β γ : Type} (f : β → γ) (L : List (κ × β)) (k : κ) (v : β) : aset (L.map fun x => (x.1, f x.2)) k (f v) = (aset L k v).map fun x => (x.1, f x.2) := by
  unfold aset
  rw [aget_map, Option.isSome_map]
  split
  · simp only [List.map_map]
    congr 1
    funext x
    simp only [Function.comp]
    split <;> rfl
  · simp
theorem adel_map {β γ : Type} (f : β → γ) (L : List (κ × β)) (k : κ) : adel (L.map fun x => (x.1, f x.2)) k = (adel L k).map fun x => (x.1, f x.2) := by
  unfold adel
  rw [List.filter_map]
  rfl
theorem mem_aset {β : Type} {L : List (κ × β)} {k : κ} {v : β} {x : κ × β} (h : x ∈ aset L k v) : x ∈ L ∨ x = (k, v) := by
  unfold aset at h
  split at h
  · obtain ⟨y, hy, rfl⟩ := List.mem_map.1 h
    split
    · exact .inr rfl
    · exact .inl hy
  · simpa using h
theorem mem_adel {β : Type} {L : List (κ × β)} {k : κ} {x : κ × β} (h : x ∈ adel L k) : x ∈ L := (List.mem_filter.1 h).1
theorem aget_aset_same {β : Type} (L : List (κ × β)) (k : κ) (v : β) : aget (aset L k v) k = some v := by
  unfold aset
  split
  · rename_i h
    unfold aget at h ⊢
    induction L with
    | nil => simp at h
    | cons x L ih =>
      simp only [List.map_cons, List.find?_cons] at h ⊢
      by_cases hx : x.1 = k
      · simp [hx]
      · simp only [hx, if_false, beq_iff_eq] at h ⊢
        split
        · simp_all
        · exact ih (by split at h <;> simp_all)
  · rename_i h
    have h0 : L.find? (fun x => x.1 == k) = none := by
      cases hh : L.find? (fun x => x.1 == k) with
      | none => rfl
      | some x => simp [aget, hh] at h
    simp [aget, List.find?_append, h0]
theorem aget_aset_other {β : Type} (L : List (κ × β)) (k j : κ) (v : β) (hj : j ≠ k) : aget (aset L k v) j = aget L j := by
  unfold aset
  split
  · rename_i h
    clear h
    unfold aget
    induction L with
    | nil => rfl
    | cons x L ih =>
      rw [List.map_cons, List.find?_cons, List.find?_cons]
      by_cases hx : x.1 = k
      · have h1 : (x.1 == j) = false := by rw [hx]; simp; exact fun e => hj e.symm
        have h2 : (k == j) = false := by simp; exact fun e => hj e.symm
        rw [if_pos hx, h1]
        show Option.map _ (match (k == j) with | true => _ | false => _) = _
        rw [h2]
        exact ih
      · rw [if_neg hx]
        split
        · rfl
        · exact ih
  · have : (k == j) = false := by simp; exact fun e => hj e.symm
    simp [aget, List.find?_append, this]
theorem aget_adel_other {β : Type} (L : List (κ × β)) (k j : κ) (hj : j ≠ k) : aget (adel L k) j = aget L j := by
  unfold aget adel
  rw [List.find?_filter]
  congr 2
  funext x
  by_cases h : x.1 = j
  · simp [h, hj]
  · simp [h]
theorem aget_adel_same {β : Type} (L : List (κ × β)) (k : κ) : aget (adel L k) k = none := by
  unfold aget adel
  rw [List.find?_filter]
  simp

theorem KMap.kept {enc : κ → Value} {S : Nat → Prop} {w w' : World} {m : Nat} {L : List (κ × Value)} (h : KMap enc w m L) (k : Kp S w w') (hs : S m) : KMap enc w' m L := by
  obtain ⟨es, ck, hb, hst, hL⟩ := h
  exact ⟨es, ck, k.heap hb hs, hst, hL⟩
theorem KMap.all {enc : κ → Value} {w w' : World} {m : Nat} {L : List (κ × Value)} (h : KMap enc w m L) (k : Kp All w w') : KMap enc w' m L := h.kept k trivial
theorem KMap.new (enc : κ → Value) (w : World) : KMap enc (w.alloc (.map #[] 0)) w.heap.size [] := ⟨_, _, blk_new w _, stamped_empty 0, rfl⟩

theorem KMap.keys {P : Program} {kt : TypeId} {d : TypeDesc} {enc : κ → Value} (K : KeyEnc P kt d enc) {es : Array MapEntry} {L : List (κ × Value)} (hL : es.toList.map (fun e => (e.key, e.val)) = L.map (fun x => (enc x.1, x.2))) :
    ∀ x ∈ es.toList, IsKey d x.key := by
  intro x hx
  have : (x.key, x.val) ∈ L.map (fun x => (enc x.1, x.2)) := hL ▸ List.mem_map.2 ⟨x, hx, rfl⟩
  obtain ⟨y, _, hy⟩ := List.mem_map.1 this
  rw [← (Prod.mk.inj hy).1]; exact K.key _

theorem KMap.nodup {P : Program} {kt : TypeId} {d : TypeDesc} {enc : κ → Value} (K : KeyEnc P kt d enc) {w : World} {m : Nat} {L : List (κ × Value)} (h : KMap enc w m L) : (L.map (·.1)).Nodup := by
  obtain ⟨es, ck, hb, hst, hL⟩ := h
  have h1 : es.toList.map (·.key) = L.map (fun x => enc x.1) := by
    have := congrArg (List.map Prod.fst) hL
    simpa [List.map_map, Function.comp_def] using this
  have h2 := hst.2.2
  rw [h1] at h2
  have : (L.map (fun x => enc x.1)) = (L.map (·.1)).map enc := by simp [List.map_map, Function.comp_def]
  rw [this] at h2
  exact List.Pairwise.of_map enc (fun a b hab e => hab (e ▸ rfl)) h2

theorem find_at {P : Program} {kt : TypeId} {d : TypeDesc} {enc : κ → Value} (K : KeyEnc P kt d enc) {es : List MapEntry} {L : List (κ × Value)} (k : κ) (hL : es.map (fun e => (e.key, e.val)) = L.map (fun x => (enc x.1, x.2))) :
    (Instr.findNow d (enc k) es 0 = some none ∧ aget L k = none) ∨ ∃ j e, Instr.findNow d (enc k) es 0 = some (some (j, e.val)) ∧ es[j]? = some e ∧ e.key = enc k ∧ aget L k = some e.val ∧ L[j]? = some (k, e.val) ∧ ∀ i < j, ∀ x, L[i]? = some x → x.1 ≠ k := by
  suffices H : ∀ (es : List MapEntry) (L : List (κ × Value)) (n : Nat), es.map (fun e => (e.key, e.val)) = L.map (fun x => (enc x.1, x.2)) →
      (Instr.findNow d (enc k) es n = some none ∧ aget L k = none) ∨ ∃ j e, Instr.findNow d (enc k) es n = some (some (n + j, e.val)) ∧ es[j]? = some e ∧ e.key = enc k ∧ aget L k = some e.val ∧ L[j]? = some (k, e.val) ∧ ∀ i < j, ∀ x, L[i]? = some x → x.1 ≠ k by
    have := H es L 0 hL
    simpa using this
  intro es
  induction es with
  | nil =>
    intro L n hL
    cases L with
    | nil => exact .inl ⟨rfl, rfl⟩
    | cons x L => simp at hL
  | cons e es ih =>
    intro L n hL
    cases L with
    | nil => simp at hL
    | cons x L =>
      simp only [List.map_cons, List.cons.injEq, Prod.mk.injEq] at hL
      obtain ⟨⟨hk, hv⟩, hL⟩ := hL
      obtain ⟨r, hr, hiff⟩ := sameNow_of_keys (K.key k) (K.key x.1)
      by_cases hx : x.1 = k
      · have hr' : r = true := hiff.2 (by rw [hx])
        refine .inr ⟨0, e, ?_, rfl, by rw [hk, hx], ?_, ?_, by simp⟩
        · simp [Instr.findNow, hk, hr, hr']
        · simp [aget, hx, hv]
        · simp [← hx, hv]
      · have hr' : r = false := by
          cases r with
          | false => rfl
          | true => exact absurd (K.inj _ _ (hiff.1 rfl)).symm hx
        rcases ih L (n + 1) hL with ⟨h1, h2⟩ | ⟨j, e', h1, h2, h3, h4, h5, h6⟩
        · refine .inl ⟨by simp [Instr.findNow, hk, hr, hr', h1], ?_⟩
          simpa [aget, hx] using h2
        · refine .inr ⟨j + 1, e', ?_, by simpa using h2, h3, ?_, by simpa using h5, ?_⟩
          · simp [Instr.findNow, hk, hr, hr', h1]; omega
          · simpa [aget, hx] using h4
          · intro i hi y hy
            cases i with
            | zero => simp at hy; rw [← hy]; exact hx
            | succ i => exact h6 i (by omega) y (by simpa using hy)

theorem KMap.lookup {P : Program} {t kt et : TypeId} {d : TypeDesc} {enc : κ → Value} (K : KeyEnc P kt d enc) (ht : P.underlying t = some (.map kt et)) {w : World} {m : Nat} {L : List (κ × Value)} (h : KMap enc w m L) (k : κ) (z : Value)
    (hz : (zeroValue et).run P w = .ok z w) :
    (Instr.lookup t (.map (some m)) (enc k) true).run P w = .ok (.tuple #[(aget L k).getD z, .bool (aget L k).isSome]) w ∧
    (Instr.lookup t (.map (some m)) (enc k) false).run P w = .ok ((aget L k).getD z) w := by
  obtain ⟨es, ck, hb, hst, hL⟩ := h
  have hc := run_checkKey (P := P) (w := w) K.kind (K.key k) es.isEmpty 9999
  rcases find_at K k hL with ⟨h1, h2⟩ | ⟨j, e, h1, _, _, h4, _, _⟩
  · have hf := run_findKey (P := P) (w := w) K.kind h1
    constructor <;> simp [Instr.lookup, run_underlying ht, MapKept.run_getObj_map hb, hc, hf, hz, h2, Result.andThen]
  · have hf := run_findKey (P := P) (w := w) K.kind h1
    constructor <;> simp [Instr.lookup, run_underlying ht, MapKept.run_getObj_map hb, hc, hf, h4, Result.andThen]

theorem KMap.len {P : Program} {t kt et ty : TypeId} {enc : κ → Value} (ht : P.underlying t = some (.map kt et)) {w : World} {m : Nat} {L : List (κ × Value)} (h : KMap enc w m L) :
    (Builtin.len_ #[t] ty #[.map (some m)]).run P w = .ok (.int .i64 L.length) w := by
  obtain ⟨es, ck, hb, hst, hL⟩ := h
  have hl : es.size = L.length := by have := congrArg List.length hL; simpa using this
  simp [Builtin.len_, run_underlying ht, MapKept.run_getObj_map hb, Result.andThen, goInt, hl]

theorem KMap.update {P : Program} {t kt et : TypeId} {d : TypeDesc} {enc : κ → Value} (K : KeyEnc P kt d enc) (ht : P.underlying t = some (.map kt et)) {w : World} {m : Nat} {L : List (κ × Value)} (h : KMap enc w m L) (k : κ) (v : Value) :
    ∃ o, (Instr.mapUpdate t (.map (some m)) (enc k) v).run P w = .ok () { w with heap := w.heap.setIfInBounds m o } ∧ KMap enc { w with heap := w.heap.setIfInBounds m o } m (aset L k v) := by
  obtain ⟨es, ck, hb, hst, hL⟩ := h
  have hc := run_checkKey (P := P) (w := w) K.kind (K.key k) false 9999
  rcases find_at K k hL with ⟨h1, h2⟩ | ⟨j, e, h1, hj, hke, h4, hLj, hlt⟩
  · have hf := run_findKey (P := P) (w := w) K.kind h1
    refine ⟨.map (es.push { key := enc k, val := v, born := ck }) (ck + 1), ?_, ?_⟩
    · simp [Instr.mapUpdate, run_underlying ht, MapKept.run_getObj_map hb, hc, hf, MapKept.run_setObj_map _ hb, Result.andThen]
    · refine ⟨_, _, (heap_set hb).1, stamped_push hst ?_, ?_⟩
      · intro x hx e
        have hn : ∀ y ∈ L, y.1 ≠ k := by
          intro y hy hyk
          simp only [aget, Option.map_eq_none_iff, List.find?_eq_none] at h2
          exact h2 y hy (by simpa using hyk)
        have : (x.key, x.val) ∈ L.map (fun x => (enc x.1, x.2)) := hL ▸ List.mem_map.2 ⟨x, hx, rfl⟩
        obtain ⟨y, hy, hyx⟩ := List.mem_map.1 this
        exact hn y hy (K.inj _ _ ((Prod.mk.inj hyx).1.trans e))
      · simp [aset, h2, hL]
  · have hf := run_findKey (P := P) (w := w) K.kind h1
    have hjs : j < es.size := by simpa using (List.getElem?_eq_some_iff.1 hj).1
    have hej : es[j]? = some e := by simpa using hj
    refine ⟨.map (es.modify j fun e => { e with key := enc k, val := v }) ck, ?_, ?_⟩
    · have hks : ((es[j]?.map (·.key)).getD (enc k)) = enc k := by simp [hej, hke]
      simp [Instr.mapUpdate, run_underlying ht, MapKept.run_getObj_map hb, hc, hf, MapKept.run_setObj_map _ hb, Result.andThen, hej, hke, run_keyThatStays (K.key k)]
    · refine ⟨_, _, (heap_set hb).1, stamped_modify hst j _ (fun _ _ => rfl) ?_, ?_⟩
      · intro e' _ he'
        rw [hej] at he'; cases he'; exact hke.symm
      · have hnd : (L.map (·.1)).Nodup := KMap.nodup K ⟨es, ck, hb, hst, hL⟩
        apply List.ext_getElem?
        intro i
        have hLi := congrArg (fun l => l[i]?) hL
        simp only [List.getElem?_map, Array.getElem?_toList] at hLi
        simp only [aset, h4, Option.isSome_some, if_true, List.getElem?_map, Array.getElem?_toList, Array.getElem?_modify]
        by_cases hij : j = i
        · subst hij
          simp [hej, hLj]
        · rw [if_neg hij]
          cases hl : L[i]? with
          | none => rw [hl] at hLi; simpa using hLi
          | some x =>
            have hx : x.1 ≠ k := by
              intro hxk
              have hi' : i < L.length := (List.getElem?_eq_some_iff.1 hl).1
              have hj' : j < L.length := (List.getElem?_eq_some_iff.1 hLj).1
              have := (List.getElem?_inj (l := L.map (·.1)) (i := j) (j := i) (by simpa using hj') hnd).1 (by simp [hl, hLj, hxk])
              exact hij this
            rw [hl] at hLi
            simpa [hx] using hLi

theorem map_eraseIdx' {α β : Type} (f : α → β) : ∀ (l : List α) (i : Nat), (l.eraseIdx i).map f = (l.map f).eraseIdx i
  | [], _ => rfl
  | _ :: _, 0 => rfl
  | x :: l, i + 1 => by simp [map_eraseIdx' f l i]

theorem adel_idx {k : κ} {v : Value} : ∀ {L : List (κ × Value)} {j : Nat}, (L.map (·.1)).Nodup → L[j]? = some (k, v) → adel L k = L.eraseIdx j
  | [], j, _, h => by simp at h
  | x :: L, 0, hn, h => by
    simp only [List.getElem?_cons_zero, Option.some.injEq] at h
    subst h
    simp only [List.map_cons, List.nodup_cons] at hn
    simp only [adel, List.eraseIdx_zero, List.tail_cons]
    rw [List.filter_cons_of_neg (by simp)]
    apply List.filter_eq_self.2
    intro y hy
    simp only [ne_eq, decide_eq_true_eq]
    intro e
    exact hn.1 (List.mem_map.2 ⟨y, hy, e⟩)
  | x :: L, j + 1, hn, h => by
    simp only [List.map_cons, List.nodup_cons] at hn
    have hx : x.1 ≠ k := by
      intro e
      have := List.mem_of_getElem? (by simpa using h : L[j]? = some (k, v))
      exact hn.1 (List.mem_map.2 ⟨_, this, e.symm⟩)
    have ih := adel_idx hn.2 (by simpa using h : L[j]? = some (k, v))
    simp only [adel] at ih ⊢
    rw [List.filter_cons_of_pos (by simpa using hx), ih, List.eraseIdx_cons_succ]

theorem KMap.delete {P : Program} {t kt et ty : TypeId} {d : TypeDesc} {enc : κ → Value} (K : KeyEnc P kt d enc) (ht : P.underlying t = some (.map kt et)) {w : World} {m : Nat} {L : List (κ × Value)} (h : KMap enc w m L) (k : κ) :
    ∃ o, (Builtin.delete_ #[t, kt] ty #[.map (some m), enc k]).run P w = .ok (.tuple #[]) { w with heap := w.heap.setIfInBounds m o } ∧ KMap enc { w with heap := w.heap.setIfInBounds m o } m (adel L k) := by
  have hnd : (L.map (·.1)).Nodup := KMap.nodup K h
  obtain ⟨es, ck, hb, hst, hL⟩ := h
  have hc := run_checkKey (P := P) (w := w) K.kind (K.key k) es.isEmpty 9999
  rcases find_at K k hL with ⟨h1, h2⟩ | ⟨j, e, h1, hj, hke, h4, hLj, hlt⟩
  · have hf := run_findKey (P := P) (w := w) K.kind h1
    refine ⟨.map es ck, ?_, ?_⟩
    · simp [Builtin.delete_, run_underlying ht, MapKept.run_getObj_map hb, hc, hf, MapKept.run_setObj_map _ hb, Result.andThen]
    · refine ⟨_, _, (heap_set hb).1, hst, ?_⟩
      rw [hL]
      congr 1
      symm
      apply List.filter_eq_self.2
      intro y hy
      simp only [aget, Option.map_eq_none_iff, List.find?_eq_none] at h2
      have := h2 y hy
      simpa using this
  · have hf := run_findKey (P := P) (w := w) K.kind h1
    have hjs : j < es.size := by simpa using (List.getElem?_eq_some_iff.1 hj).1
    refine ⟨.map (es.eraseIdxIfInBounds j) ck, ?_, ?_⟩
    · simp [Builtin.delete_, run_underlying ht, MapKept.run_getObj_map hb, hc, hf, MapKept.run_setObj_map _ hb, Result.andThen]
    · refine ⟨_, _, (heap_set hb).1, stamped_erase hst j, ?_⟩
      have hdel : adel L k = L.eraseIdx j := adel_idx hnd hLj
      rw [hdel]
      unfold Array.eraseIdxIfInBounds
      rw [dif_pos hjs]
      simp only [Array.toList_eraseIdx, map_eraseIdx', hL]
theorem KMap.update2 {P : Program} {t kt et : TypeId} {d : TypeDesc} {enc : κ → Value} (K : KeyEnc P kt d enc) (ht : P.underlying t = some (.map kt et)) {w : World} {m : Nat} {L : List (κ × Value)} (h : KMap enc w m L) (k : κ) (v : Value) :
    ∃ w', (Instr.mapUpdate t (.map (some m)) (enc k) v).run P w = .ok () w' ∧ KMap enc w' m (aset L k v) ∧ Kp (fun b => b ≠ m) w w' := by
  obtain ⟨o, h1, h2⟩ := h.update K ht k v
  exact ⟨_, h1, h2, (Kp.refl _ w).setHeap (fun _ h => h rfl) _⟩

/-! at the operation -/
section
variable {P : Program} {ops : Array Oper} {K : Act → World → Prop} {rest : List Oper} {o : Oper} {a : Act} {Q : Exit → Act → World → Prop} {w : World} {t kt et : TypeId} {d : TypeDesc} {enc : κ → Value} {m : Nat} {L : List (κ × Value)}
theorem wp_lookup_ok (KE : KeyEnc P kt d enc) (ht : P.underlying t = some (.map kt et)) (h : KMap enc w m L) (k : κ) {z v : Value} (hz : (zeroValue et).run P w = .ok z w) (hv : (aget L k).getD z = v) {b : Bool} (hb : (aget L k).isSome = b) (mo xo : Operand)
    (hop : o.op = Op.lookup t mo xo true) (hm : a.eval mo = .map (some m)) (hx : a.eval xo = enc k) (hK : K (a.put o.dst (.tuple #[v, .bool b])) w) : o.wp P a w K Q := by
  unfold Oper.wp execOp
  simp only [hop, hm, hx, Sem.run_bind, (h.lookup KE ht k z hz).1, hv, hb, Result.andThen_ok]
  exact hK
theorem wpList_lookup_ok (KE : KeyEnc P kt d enc) (ht : P.underlying t = some (.map kt et)) (h : KMap enc w m L) (k : κ) {z v : Value} (hz : (zeroValue et).run P w = .ok z w) (hv : (aget L k).getD z = v) {b : Bool} (hb : (aget L k).isSome = b) (hg : o.guard = none) (mo xo : Operand)
    (hop : o.op = Op.lookup t mo xo true) (hm : a.eval mo = .map (some m)) (hx : a.eval xo = enc k) (hK : wpList P ops Q rest (a.put o.dst (.tuple #[v, .bool b])) w) : wpList P ops Q (o :: rest) a w :=
  wpList_plain hg fun K2 hK2 => wp_lookup_ok KE ht h k hz hv hb mo xo hop hm hx (hK2 _ _ hK)
theorem wp_lookup_val (KE : KeyEnc P kt d enc) (ht : P.underlying t = some (.map kt et)) (h : KMap enc w m L) (k : κ) {z v : Value} (hz : (zeroValue et).run P w = .ok z w) (hv : (aget L k).getD z = v) (mo xo : Operand)
    (hop : o.op = Op.lookup t mo xo false) (hm : a.eval mo = .map (some m)) (hx : a.eval xo = enc k) (hK : K (a.put o.dst v) w) : o.wp P a w K Q := by
  unfold Oper.wp execOp
  simp only [hop, hm, hx, Sem.run_bind, (h.lookup KE ht k z hz).2, hv, Result.andThen_ok]
  exact hK
theorem wpList_lookup_val (KE : KeyEnc P kt d enc) (ht : P.underlying t = some (.map kt et)) (h : KMap enc w m L) (k : κ) {z v : Value} (hz : (zeroValue et).run P w = .ok z w) (hv : (aget L k).getD z = v) (hg : o.guard = none) (mo xo : Operand)
    (hop : o.op = Op.lookup t mo xo false) (hm : a.eval mo = .map (some m)) (hx : a.eval xo = enc k) (hK : wpList P ops Q rest (a.put o.dst v) w) : wpList P ops Q (o :: rest) a w :=
  wpList_plain hg fun K2 hK2 => wp_lookup_val KE ht h k hz hv mo xo hop hm hx (hK2 _ _ hK)
theorem wp_maplen (ht : P.underlying t = some (.map kt et)) (h : KMap enc w m L) (mo : Operand) (hop : o.op = .call { callee := .builtin .len, args := #[mo], argTypes := #[t] }) (hm : a.eval mo = .map (some m))
    (hK : K (a.put o.dst (.int .i64 L.length)) w) : o.wp P a w K Q := by
  unfold Oper.wp execOp
  simp only [hop, resolve, invoke, builtin, List.map_toArray, List.map_cons, List.map_nil, hm, Sem.run_bind, Sem.run_pure, KMap.len (ty := o.type) ht h, Result.andThen_ok]
  exact hK
theorem wpList_maplen (ht : P.underlying t = some (.map kt et)) (h : KMap enc w m L) (hg : o.guard = none) (mo : Operand) (hop : o.op = .call { callee := .builtin .len, args := #[mo], argTypes := #[t] }) (hm : a.eval mo = .map (some m))
    (hK : wpList P ops Q rest (a.put o.dst (.int .i64 L.length)) w) : wpList P ops Q (o :: rest) a w :=
  wpList_plain hg fun K2 hK2 => wp_maplen ht h mo hop hm (hK2 _ _ hK)
theorem wp_mapset (KE : KeyEnc P kt d enc) (ht : P.underlying t = some (.map kt et)) (h : KMap enc w m L) (k : κ) (v : Value) (mo xo vo : Operand)
    (hop : o.op = Op.mapUpdate t mo xo vo) (hm : a.eval mo = .map (some m)) (hx : a.eval xo = enc k) (hv : a.eval vo = v) (hK : ∀ w', KMap enc w' m (aset L k v) → Kp (fun b => b ≠ m) w w' → K (a.put o.dst undef) w') : o.wp P a w K Q := by
  obtain ⟨ob, hr, hn⟩ := h.update KE ht k v
  unfold Oper.wp execOp
  simp only [hop, hm, hx, hv, Sem.run_bind, hr, Result.andThen_ok]
  exact (hK _ hn ((Kp.refl _ w).setHeap (fun _ h => h rfl) _))
theorem wpList_mapset (KE : KeyEnc P kt d enc) (ht : P.underlying t = some (.map kt et)) (h : KMap enc w m L) (k : κ) (v : Value) (hg : o.guard = none) (mo xo vo : Operand)
    (hop : o.op = Op.mapUpdate t mo xo vo) (hm : a.eval mo = .map (some m)) (hx : a.eval xo = enc k) (hv : a.eval vo = v) (hK : ∀ w', KMap enc w' m (aset L k v) → Kp (fun b => b ≠ m) w w' → wpList P ops Q rest (a.put o.dst undef) w') : wpList P ops Q (o :: rest) a w :=
  wpList_plain hg fun K2 hK2 => wp_mapset KE ht h k v mo xo vo hop hm hx hv fun w' h1 h2 => hK2 _ _ (hK w' h1 h2)
theorem wp_mapdel (KE : KeyEnc P kt d enc) (ht : P.underlying t = some (.map kt et)) (h : KMap enc w m L) (k : κ) (mo xo : Operand)
    (hop : o.op = .call { callee := .builtin .delete, args := #[mo, xo], argTypes := #[t, kt] }) (hm : a.eval mo = .map (some m)) (hx : a.eval xo = enc k) (hK : ∀ w', KMap enc w' m (adel L k) → Kp (fun b => b ≠ m) w w' → K (a.put o.dst (.tuple #[])) w') : o.wp P a w K Q := by
  obtain ⟨ob, hr, hn⟩ := h.delete (ty := o.type) KE ht k
  unfold Oper.wp execOp
  simp only [hop, resolve, invoke, builtin, List.map_toArray, List.map_cons, List.map_nil, hm, hx, Sem.run_bind, Sem.run_pure, hr, Result.andThen_ok]
  exact (hK _ hn ((Kp.refl _ w).setHeap (fun _ h => h rfl) _))
theorem wpList_mapdel (KE : KeyEnc P kt d enc) (ht : P.underlying t = some (.map kt et)) (h : KMap enc w m L) (k : κ) (hg : o.guard = none) (mo xo : Operand)
    (hop : o.op = .call { callee := .builtin .delete, args := #[mo, xo], argTypes := #[t, kt] }) (hm : a.eval mo = .map (some m)) (hx : a.eval xo = enc k) (hK : ∀ w', KMap enc w' m (adel L k) → Kp (fun b => b ≠ m) w w' → wpList P ops Q rest (a.put o.dst (.tuple #[])) w') : wpList P ops Q (o :: rest) a w :=
  wpList_plain hg fun K2 hK2 => wp_mapdel KE ht h k mo xo hop hm hx fun w' h1 h2 => hK2 _ _ (hK w' h1 h2)
end
end maps

/-! ### Slices -/
/-- A row of cells at a place. -/
def Rd (b o : Nat) (xs : List Value) (w : World) : Prop := ∀ j u, xs[j]? = some u → w.cell? ⟨b, o + j, none⟩ = some u
/-- A slice's header, and the cells of its n elements. -/
def Sl (A : Option Addr) (n c sz : Nat) (xs : List Value) (w : World) : Prop := xs.length = n * sz ∧ n ≤ c ∧ (0 < n → ∃ b o, A = some ⟨b, o, none⟩ ∧ Rd b o xs w)

theorem add_lit0 (b o j : Nat) : (⟨b, o, none⟩ : Addr).add j = ⟨b, o + j, none⟩ := by unfold Addr.add; split <;> simp_all

theorem sl_own {base e sz n : Nat} {v : Value} {xs : List Value} {w : World} (h : w.ownsRow base e sz v n xs) : ∃ A c, v = .slice A n c ∧ Foot (fun b => some b = v.ownBlock) (Sl A n c sz xs) w := by
  obtain ⟨h1, h2⟩ := h
  rcases h2 with ⟨rfl, rfl⟩ | ⟨g, cap, cur, rfl, hb, hh, hn, hc, hs, ht⟩
  · exact ⟨none, 0, rfl, fun u _ => ⟨h1, Nat.le_refl _, fun h => absurd h (by omega)⟩⟩
  · refine ⟨_, _, rfl, fun u hu => ⟨h1, hn, fun _ => ⟨g, 0, rfl, fun j x hj => ?_⟩⟩⟩
    have hg := hu.heap hh (by simp [Value.ownBlock])
    rw [← ht, List.getElem?_take] at hj
    rw [blk_cell hg, Nat.zero_add]
    split at hj
    · rw [← hj]; simp
    · cases hj

/-- A slice type, its element's type, cells and bytes an element, the zero value. -/
structure El (P : Program) (t e sz by_ : Nat) (z : Value) : Prop where
  sl : P.underlying t = some (.slice e)
  info : (P.info? e).map (fun i => (i.zero, i.size, i.bytes)) = some (some z, sz, by_)
  cells : z.cells.size = sz
  pos : 0 < sz
  wide : 0 < by_

/-- append of a slice onto a row of one's own. -/
theorem run_app {P : Program} {w : World} {base t e sz by_ : Nat} {z : Value} (E : El P t e sz by_ z) (ty : TypeId) {v : Value} {n : Nat} {xs : List Value} (hown : w.ownsRow base e sz v n xs)
    {A : Option Addr} {m c : Nat} {news : List Value} (hx : Sl A m c sz news w) (h1 : ∀ u ∈ news, u.oneCell' = true) (hb : (n + m) * by_ ≤ 140737488355328) (hbase : base ≤ w.heap.size) :
    ∃ v' w', (Builtin.append_ #[t, t] ty #[v, .slice A m c]).run P w = .ok v' w' ∧ w'.ownsRow base e sz v' (n + m) (xs ++ news) ∧ w.grownBy w' v.ownBlock ∧ (v'.ownBlock = v.ownBlock ∨ v'.ownBlock = some w.heap.size) ∧ (v' = .slice none 0 0 ↔ v = .slice none 0 0 ∧ m = 0) := by
  obtain ⟨i, hi, hz, hs, hby⟩ := info_parts E.info
  have hle : n + m ≤ (n + m) * by_ := Nat.le_mul_of_pos_right _ E.wide
  have h63 : n + m ≤ maxLen := by simp only [maxLen]; omega
  cases A with
  | some a =>
    have hnews : ∀ j u, news[j]? = some u → w.cell? (a.add j) = some u := by
      intro j u hj
      have hm : 0 < m := by
        rcases Nat.eq_zero_or_pos m with h0 | h0
        · exfalso
          have hn : news = [] := List.eq_nil_of_length_eq_zero (by rw [hx.1, h0, Nat.zero_mul])
          rw [hn] at hj; cases hj
        · exact h0
      obtain ⟨b, o, ha, hr⟩ := hx.2.2 hm
      cases ha
      rw [add_lit0]
      exact hr j u hj
    obtain ⟨v', w', hr, h2, h3, h4, h5⟩ := run_append_own_at (P := P) w base t ty e i z sz by_ E.sl hi hz hs hby E.cells E.pos v n xs hown a m c news hx.1 hnews h1 h63 hb hbase
    exact ⟨v', w', hr, h2, h3, h5, h4⟩
  | none =>
    have hm : m = 0 := by
      rcases Nat.eq_zero_or_pos m with h0 | h0
      · exact h0
      · obtain ⟨_, _, ha, _⟩ := hx.2.2 h0; cases ha
    subst hm
    have hn : news = [] := List.eq_nil_of_length_eq_zero (by rw [hx.1, Nat.zero_mul])
    subst hn
    rcases hown.2 with ⟨rfl, rfl⟩ | ⟨g, cap, cur, rfl, hbg, hg, hnc, hcm, hcs, htake⟩
    · refine ⟨.slice none 0 0, w, ?_, by simpa using hown, ⟨rfl, rfl, rfl, Nat.le_refl _, fun _ _ _ => rfl⟩, .inl rfl, by simp⟩
      simp [Builtin.append_, run_underlying E.sl, sizeOf, typeInfo, hi, Builtin.lenOf, Builtin.firstCells, loadCells, loadCellsFrom]
    · refine ⟨.slice (some ⟨g, 0, none⟩) n cap, w, ?_, by simpa using hown, ⟨rfl, rfl, rfl, Nat.le_refl _, fun _ _ _ => rfl⟩, .inl rfl, by simp⟩
      simp [Builtin.append_, run_underlying E.sl, sizeOf, typeInfo, hi, Builtin.lenOf, Builtin.firstCells, hnc, storeCells]

theorem wp_app {P : Program} {w : World} {o : Oper} {a : Act} {Q : Exit → Act → World → Prop} {K : Act → World → Prop} {base t e sz by_ : Nat} {z : Value} (E : El P t e sz by_ z) {v : Value} {n : Nat} {xs : List Value} (hown : w.ownsRow base e sz v n xs)
    {A : Option Addr} {m c : Nat} {news : List Value} (hx : Sl A m c sz news w) (h1 : ∀ u ∈ news, u.oneCell' = true) (hb : (n + m) * by_ ≤ 140737488355328) (hbase : base ≤ w.heap.size) (s x : Operand)
    (ho : o.op = .call { callee := .builtin .append, args := #[s, x], argTypes := #[t, t] }) (hs : a.eval s = v) (hxe : a.eval x = .slice A m c)
    (h : ∀ v' w', w'.ownsRow base e sz v' (n + m) (xs ++ news) → w.grownBy w' v.ownBlock → (v'.ownBlock = v.ownBlock ∨ v'.ownBlock = some w.heap.size) → (v' = .slice none 0 0 ↔ v = .slice none 0 0 ∧ m = 0) → K (a.put o.dst v') w') :
    o.wp P a w K Q := by
  obtain ⟨v', w', hr, h2, h3, h4, h5⟩ := run_app (P := P) E o.type hown hx h1 hb hbase
  unfold Oper.wp execOp
  simp only [ho, resolve, invoke, builtin, Sem.run_bind, Sem.run_pure, Result.andThen_ok, List.map_toArray, List.map_cons, List.map_nil, hs, hxe, hr]
  exact h v' w' h2 h3 h4 h5

theorem wpList_app {P : Program} {w : World} {ops : Array Oper} {rest : List Oper} {o : Oper} {a : Act} {Q : Exit → Act → World → Prop} {base t e sz by_ : Nat} {z : Value} (E : El P t e sz by_ z) {v : Value} {n : Nat} {xs : List Value} (hown : w.ownsRow base e sz v n xs)
    {A : Option Addr} {m c : Nat} {news : List Value} (hx : Sl A m c sz news w) (h1 : ∀ u ∈ news, u.oneCell' = true) (hb : (n + m) * by_ ≤ 140737488355328) (hbase : base ≤ w.heap.size) (hgd : o.guard = none) (s x : Operand)
    (ho : o.op = .call { callee := .builtin .append, args := #[s, x], argTypes := #[t, t] }) (hs : a.eval s = v) (hxe : a.eval x = .slice A m c)
    (h : ∀ v' w', w'.ownsRow base e sz v' (n + m) (xs ++ news) → w.grownBy w' v.ownBlock → (v'.ownBlock = v.ownBlock ∨ v'.ownBlock = some w.heap.size) → (v' = .slice none 0 0 ↔ v = .slice none 0 0 ∧ m = 0) → wpList P ops Q rest (a.put o.dst v') w') :
    wpList P ops Q (o :: rest) a w := by
  exact wpList_plain hgd fun K hK => wp_app E hown hx h1 hb hbase s x ho hs hxe fun v' w' h1 h2 h3 h4 => hK _ _ (h v' w' h1 h2 h3 h4)

theorem run_build0 {P : Program} {w : World} {t e sz by_ : Nat} {z : Value} (E : El P t e sz by_ z) : (Instr.buildSlice t 0 #[]).run P w = .ok (.slice (some ⟨w.heap.size, 0, none⟩) 0 0) (w.alloc (.cells #[] e)) := by
  obtain ⟨i, hi, hz, hs, hby⟩ := info_parts E.info
  simp [Instr.buildSlice, run_underlying E.sl, sizeOf, typeInfo, hi, newRow, Instr.fill, show (Array.range 0) = #[] from by decide]
theorem own_build0 {w : World} {e sz base : Nat} (hb : base ≤ w.heap.size) : (w.alloc (.cells #[] e)).ownsRow base e sz (.slice (some ⟨w.heap.size, 0, none⟩) 0 0) 0 [] := World.ownsRow_made w #[] 0 hb (by simp [maxLen]) (by simp)

/-! ### Structs held against each other -/
section
variable {P : Program} {d : Nat} {xs ys : Array Value} {f : Field} {fs : List Field} {a b : Value} {r s : Bool} {w : World}
theorem eqf_cons (hn : (f.name == "_") = false) (ha : (part f.type xs f.offset).run P w = .ok a w) (hb : (part f.type ys f.offset).run P w = .ok b w) (he : (Op.equalIn d f.type a b).run P w = .ok r w) (hr : (Op.eqFields d xs ys fs).run P w = .ok s w) : (Op.eqFields d xs ys (f :: fs)).run P w = .ok (r && s) w := by
  have hn' : f.name ≠ "_" := by simpa using hn
  rw [Op.eqFields]
  simp only [if_pos hn', Sem.run_bind, ha, hb, he, Result.andThen_ok]
  cases r
  · simp
  · simpa using hr
theorem eqf_nil : (Op.eqFields d xs ys []).run P w = .ok true w := by simp [Op.eqFields]
theorem eq_of_fields {t : TypeId} {fs : Array Field} (hu : P.underlying t = some (.struct fs)) (hp : P.stoodInHeld t = false) (h : (Op.eqFields d xs ys fs.toList).run P w = .ok r w) : (Op.equalIn (d + 1) t (.agg xs) (.agg ys)).run P w = .ok r w := by
  have hf : P.fieldsOf t = fs := by simp [Program.fieldsOf, hu]
  rw [run_equalIn_struct (P := P) w d t xs ys (by rw [hf]; exact hu) hp, hf]
  exact h
end

theorem run_max2 {P : Program} (w : World) (t ty : TypeId) (k : IntKind) (a b : Int) : (Builtin.max_ #[t, t] ty #[.int k a, .int k b]).run P w = .ok (.int k (max a b)) w := by
  have h : (if b > a then b else a) = max a b := by rw [Int.max_def]; split <;> split <;> omega
  simp [Builtin.max_, Builtin.max2]
  simpa using h
theorem run_min2 {P : Program} (w : World) (t ty : TypeId) (k : IntKind) (a b : Int) : (Builtin.min_ #[t, t] ty #[.int k a, .int k b]).run P w = .ok (.int k (min a b)) w := by
  have h : (if b < a then b else a) = min a b := by rw [Int.min_def]; split <;> split <;> omega
  simp [Builtin.min_, Builtin.min2]
  simpa using h
end Go.Proofs.YtodledidabdkaaaDoor
