/- Small laws for the walks of this seat: what a piece of a run keeps, maps with integer keys, slices, appends. No condition. Rows of bytes, and own rows: what they are, and what keeps them. No condition. The codec's numbers in bytes: plain words, with no program in sight. No condition. The codec's writers: behind, ones, put, Put, Zig, text, PutText, PutBool: walked once each. No condition but that the numbers are of their kinds, and the rows not great. The codec's writers over rows: Put, text, PutText, PutBool: walked once each. No condition but that the numbers are of their kinds, and the rows not great. Rows of bytes as texts. No condition. Plain: the checksum, numbers with the lowest byte first, frames and their way back. No condition. The codec's Sum, whole, little: walked once each. No condition but that the row is not great. The codec's Unframe: walked once. No condition but that the row is not great. -/
import Derived.Test.YtbkhademplgicaaGreatDoorProg
import Derived.WalkKit
import Derived.KernelRfl
import Derived.WalkLawsBesides
import Derived.WalkSpells
import Derived.MapKept
import Derived.Deep.Draws
import Derived.Maps.AppendAt
import Derived.Lib.AppendStr
import Derived.Lib.SliceRun
import Derived.Deep.RegionHeld3
import Derived.Laws.StructEq
import Derived.Deep.RegionWith
import Derived.Deep.QuietTactic
import Derived.BigQuiet
import Derived.Lib.BitFns
import Derived.Lib.ItoaNum
import Derived.Test.YtbkhademplgicaaGreatDoorIB
import Derived.Laws.BitsAllLaws
import Derived.Laws.IdiomStrings
import Derived.Lib.BufferRead
set_option linter.unusedVariables false
set_option linter.unusedSimpArgs false
namespace Go.Proofs.YtbkhademplgicaaGreatDoor
open Go.RowKit Go.MapKept
set_option linter.unusedSectionVars false
set_option linter.unusedSimpArgs false
set_option linter.unusedVariables false

/-! ### What a piece of a run keeps -/


theorem hid {p : Prop} (h : p) : Hid p := h
structure Kp (S : Nat → Prop) (w w' : World) : Prop where
  os : w'.os = w.os
  tape : w'.tape = w.tape
  output : w'.output = w.output
  size : w.heap.size ≤ w'.heap.size
  block : ∀ b, b < w.heap.size → S b → w'.heap[b]? = w.heap[b]?

/-- All blocks. -/
def All : Nat → Prop := fun _ => True

theorem Kp.refl (S : Nat → Prop) (w : World) : Kp S w w := ⟨rfl, rfl, rfl, Nat.le_refl _, fun _ _ _ => rfl⟩
theorem Kp.trans {S : Nat → Prop} {a b c : World} (h : Kp S a b) (k : Kp S b c) : Kp S a c :=
  ⟨k.os.trans h.os, k.tape.trans h.tape, k.output.trans h.output, Nat.le_trans h.size k.size, fun i hi hs => (k.block i (Nat.lt_of_lt_of_le hi h.size) hs).trans (h.block i hi hs)⟩
theorem Kp.mono {S T : Nat → Prop} {a b : World} (h : Kp S a b) (hs : ∀ k, k < a.heap.size → T k → S k) : Kp T a b :=
  ⟨h.os, h.tape, h.output, h.size, fun i hi ht => h.block i hi (hs i hi ht)⟩
theorem Kp.all {T : Nat → Prop} {a b : World} (h : Kp All a b) : Kp T a b := h.mono fun _ _ _ => trivial
/-- What was kept up to a and what the later step kept of the blocks that a had. -/
theorem Kp.then {S T : Nat → Prop} {a b c : World} (h : Kp S a b) (k : Kp T b c) (hs : ∀ i, i < a.heap.size → S i → T i) : Kp S a c :=
  ⟨k.os.trans h.os, k.tape.trans h.tape, k.output.trans h.output, Nat.le_trans h.size k.size, fun i hi hS => (k.block i (Nat.lt_of_lt_of_le hi h.size) (hs i hi hS)).trans (h.block i hi hS)⟩
theorem Kp.of_below {B : Nat} {a b : World} (h : Below B a b) (hB : a.heap.size ≤ B) : Kp All a b :=
  ⟨h.os, h.tape, h.output, h.size, fun i hi _ => h.block i (by omega)⟩
theorem Kp.below {a b : World} (h : Kp All a b) : Below a.heap.size a b := ⟨h.os, h.tape, h.output, h.size, fun i hi => h.block i hi trivial⟩
theorem Kp.grown {a b : World} {row : Option Nat} (h : a.grownBy b row) : Kp (fun k => some k ≠ row) a b := ⟨h.os, h.tape, h.output, h.size, fun i hi hs => h.block i hi hs⟩
theorem Kp.drew {S : Nat → Prop} {a w : World} (h : Kp S a w) : Kp S a w.drew := ⟨h.os, h.tape, h.output, h.size, h.block⟩
theorem Kp.drewN {S : Nat → Prop} {a w : World} (h : Kp S a w) (n : Nat) : Kp S a (w.drewN n) := ⟨h.os, h.tape, h.output, h.size, h.block⟩
theorem Kp.alloc {S : Nat → Prop} {a w : World} (h : Kp S a w) (o : Obj) : Kp S a (w.alloc o) :=
  h.trans ⟨rfl, rfl, rfl, by simp, fun b hb _ => Below.heap_alloc _ _ _ hb⟩
theorem Kp.al (w : World) (o : Obj) : Kp All w (w.alloc o) := (Kp.refl All w).alloc o
theorem Kp.setCell {S : Nat → Prop} {a w : World} (h : Kp S a w) {p : Addr} (hp : p.block < a.heap.size → ¬ S p.block) (u : Value) : Kp S a (w.setCell p u) :=
  ⟨h.os, h.tape, h.output, by simpa using h.size, fun b hb hs => (Below.heap_setCell _ _ _ _ (fun e => hp (e ▸ hb) (e ▸ hs))).trans (h.block b hb hs)⟩
theorem Kp.setNew {S : Nat → Prop} {a w : World} (h : Kp S a w) {b i : Nat} (hp : a.heap.size ≤ b) (u : Value) : Kp S a (w.setCell ⟨b, i, none⟩ u) := h.setCell (fun hb => absurd hb (Nat.not_lt.2 hp)) u
theorem Kp.setOut {S : Nat → Prop} {a w : World} (h : Kp S a w) {b i : Nat} (hp : ¬ S b) (u : Value) : Kp S a (w.setCell ⟨b, i, none⟩ u) := h.setCell (fun _ => hp) u
theorem Kp.setHeap {S : Nat → Prop} {a w : World} (h : Kp S a w) {m : Nat} (hp : m < a.heap.size → ¬ S m) (o : Obj) : Kp S a { w with heap := w.heap.setIfInBounds m o } :=
  ⟨h.os, h.tape, h.output, by simpa using h.size, fun b hb hs => by
    have hne : b ≠ m := fun e => hp (e ▸ hb) (e ▸ hs)
    have := h.block b hb hs
    simpa [Array.getElem?_setIfInBounds, Ne.symm hne] using this⟩
theorem Kp.heap {S : Nat → Prop} {w w' : World} (h : Kp S w w') {b : Nat} {o : Obj} (hb : w.heap[b]? = some o) (hs : S b) : w'.heap[b]? = some o :=
  (h.block b (Array.getElem?_eq_some_iff.1 hb).1 hs).trans hb
theorem Kp.cell {S : Nat → Prop} {w w' : World} (h : Kp S w w') {p : Addr} {v : Value} (hc : w.cell? p = some v) (hs : S p.block) : w'.cell? p = some v :=
  (World.cell?_of_block (h.block p.block (World.block_lt_of_cell? w p hc) hs)).trans hc

theorem blk_lt {w : World} {b : Nat} {o : Obj} (h : w.heap[b]? = some o) : b < w.heap.size := (Array.getElem?_eq_some_iff.1 h).1
theorem blk_cell {w : World} {b : Nat} {cs : Array Value} {t : TypeId} {fz : Nat × Nat} (h : w.heap[b]? = some (.cells cs t fz)) (i : Nat) : w.cell? ⟨b, i, none⟩ = cs[i]? := by
  simp [World.cell?, h]
theorem blk_free {w : World} {b : Nat} {cs : Array Value} {t : TypeId} (h : w.heap[b]? = some (.cells cs t (0, 0))) (i : Nat) : w.frozen? ⟨b, i, none⟩ = false := by
  simp [World.frozen?, h]
theorem blk_new (w : World) (o : Obj) : (w.alloc o).heap[w.heap.size]? = some o := (MapKept.heap_alloc w o).1
theorem blk_alloc {w : World} {b : Nat} {o : Obj} (h : w.heap[b]? = some o) (o' : Obj) : (w.alloc o').heap[b]? = some o := (Below.heap_alloc w o' b (blk_lt h)).trans h
theorem blk_set {w : World} {b : Nat} {cs : Array Value} {t : TypeId} {fz : Nat × Nat} (h : w.heap[b]? = some (.cells cs t fz)) (i : Nat) (v : Value) : (w.setCell ⟨b, i, none⟩ v).heap[b]? = some (.cells (cs.setIfInBounds i v) t fz) := by
  simp [World.setCell, Array.getElem?_modify, h]
theorem blk_far {w : World} {b : Nat} {o : Obj} (h : w.heap[b]? = some o) {p : Addr} (hne : b ≠ p.block) (v : Value) : (w.setCell p v).heap[b]? = some o := (Below.heap_setCell w p v b hne).trans h

/-- P holds, and goes by the blocks of S alone. -/
def Foot (S : Nat → Prop) (P : World → Prop) (w : World) : Prop := ∀ w', Kp S w w' → P w'
theorem Foot.now {S : Nat → Prop} {P : World → Prop} {w : World} (h : Foot S P w) : P w := h w (Kp.refl S w)
theorem Foot.step {S : Nat → Prop} {P : World → Prop} {w w' : World} (h : Foot S P w) (k : Kp S w w') : Foot S P w' := fun u hu => h u (k.trans hu)
theorem Foot.mono {S T : Nat → Prop} {P : World → Prop} {w : World} (h : Foot S P w) (hs : ∀ k, k < w.heap.size → S k → T k) : Foot T P w := fun u hu => h u (hu.mono hs)
theorem Foot.imp {S : Nat → Prop} {P Q : World → Prop} {w : World} (h : Foot S P w) (hi : ∀ u, P u → Q u) : Foot S Q w := fun u hu => hi u (h u hu)

/-! ### An operation whose run is known up to what it answers -/
theorem wpList_event {P : Program} {ops : Array Oper} {rest : List Oper} {o : Oper} {a : Act} {Q : Exit → Act → World → Prop} {w : World} (R : Value → World → Prop)
    (hw : Region.wanted o (yielded ops a.tmps) = true) (h : ∃ v w', (execOp a.eval o).run P w = .ok (.value v) w' ∧ R v w') (hK : ∀ v w', R v w' → wpList P ops Q rest (a.put o.dst v) w') : wpList P ops Q (o :: rest) a w := by
  obtain ⟨v, w', he, hr⟩ := h
  unfold wpList
  rw [if_pos hw]
  refine .inl ?_
  unfold Oper.wp
  rw [he]
  exact hK v w' hr

/-- A law on an operation, in the form that a region's steps have. -/
theorem step_plain {P : Program} {ops : Array Oper} {o : Oper} {a : Act} {w : World} {K : Act → World → Prop} {Q : Exit → Act → World → Prop} {E : Prop} (hg : o.guard = none) (h : o.wp P a w K Q) :
    if Region.wanted o (yielded ops a.tmps) = true then Oper.wp P o a w K Q else E := by
  rw [if_pos (by simp [Region.wanted, hg])]
  exact h

/-! ### Maps whose keys are told at once -/
section maps
variable {κ : Type} [DecidableEq κ]

/-- Keys of a kind, written out. -/
structure KeyEnc (P : Program) (kt : TypeId) (d : TypeDesc) (enc : κ → Value) : Prop where
  kind : P.underlying kt = some d
  key : ∀ k, IsKey d (enc k)
  inj : ∀ j k, enc j = enc k → j = k

/-- Block m is a map of the entries L. -/
def KMap (enc : κ → Value) (w : World) (m : Nat) (L : List (κ × Value)) : Prop :=
  ∃ es ck, w.heap[m]? = some (.map es ck) ∧ Stamped es ck ∧ es.toList.map (fun e => (e.key, e.val)) = L.map (fun x => (enc x.1, x.2))

def aget {β : Type} (L : List (κ × β)) (k : κ) : Option β := (L.find? (fun x => x.1 == k)).map (·.2)
def aset {β : Type} (L : List (κ × β)) (k : κ) (v : β) : List (κ × β) := if (aget L k).isSome then L.map (fun x => if x.1 = k then (k, v) else x) else L ++ [(k, v)]
def adel {β : Type} (L : List (κ × β)) (k : κ) : List (κ × β) := L.filter (fun x => x.1 ≠ k)
theorem aget_map {β γ : Type} (f : β → γ) (L : List (κ × β)) (k : κ) : aget (L.map fun x => (x.1, f x.2)) k = (aget L k).map f := by
  unfold aget
  induction L with
  | nil => rfl
  | cons x L ih =>
    simp only [List.map_cons, List.find?_cons]
    split <;> simp_all
theorem aset_map {β γ : Type} (f : β → γ) (L : List (κ × β)) (k : κ) (v : β) : aset (L.map fun x => (x.1, f x.2)) k (f v) = (aset L k v).map fun x => (x.1, f x.2) := by
  unfold aset
  rw [aget_map, Option.isSome_map]
  split
  · simp only [List.map_map]
    congr 1
    funext x
    simp only [Function.comp]
    split <;> rfl
  · simp
theorem adel_map {β γ : Type} (f : β → γ) (L : List (κ × β)) (k : κ) : adel (L.map fun x => (x.1, f x.2)) k = (adel L k).map fun x => (x.1, f x.2) := by
  unfold adel
  rw [List.filter_map]
  rfl
theorem mem_aset {β : Type} {L : List (κ × β)} {k : κ} {v : β} {x : κ × β} (h : x ∈ aset L k v) : x ∈ L ∨ x = (k, v) := by
  unfold aset at h
  split at h
  · obtain ⟨y, hy, rfl⟩ := List.mem_map.1 h
    split
    · exact .inr rfl
    · exact .inl hy
  · simpa using h
theorem mem_adel {β : Type} {L : List (κ × β)} {k : κ} {x : κ × β} (h : x ∈ adel L k) : x ∈ L := (List.mem_filter.1 h).1
theorem aget_aset_same {β : Type} (L : List (κ × β)) (k : κ) (v : β) : aget (aset L k v) k = some v := by
  unfold aset
  split
  · rename_i h
    unfold aget at h ⊢
    induction L with
    | nil => simp at h
    | cons x L ih =>
      simp only [List.map_cons, List.find?_cons] at h ⊢
      by_cases hx : x.1 = k
      · simp [hx]
      · simp only [hx, if_false, beq_iff_eq] at h ⊢
        split
        · simp_all
        · exact ih (by split at h <;> simp_all)
  · rename_i h
    have h0 : L.find? (fun x => x.1 == k) = none := by
      cases hh : L.find? (fun x => x.1 == k) with
      | none => rfl
      | some x => simp [aget, hh] at h
    simp [aget, List.find?_append, h0]
theorem aget_aset_other {β : Type} (L : List (κ × β)) (k j : κ) (v : β) (hj : j ≠ k) : aget (aset L k v) j = aget L j := by
  unfold aset
  split
  · rename_i h
    clear h
    unfold aget
    induction L with
    | nil => rfl
    | cons x L ih =>
      rw [List.map_cons, List.find?_cons, List.find?_cons]
      by_cases hx : x.1 = k
      · have h1 : (x.1 == j) = false := by rw [hx]; simp; exact fun e => hj e.symm
        have h2 : (k == j) = false := by simp; exact fun e => hj e.symm
        rw [if_pos hx, h1]
        show Option.map _ (match (k == j) with | true => _ | false => _) = _
        rw [h2]
        exact ih
      · rw [if_neg hx]
        split
        · rfl
        · exact ih
  · have : (k == j) = false := by simp; exact fun e => hj e.symm
    simp [aget, List.find?_append, this]
theorem aget_adel_other {β : Type} (L : List (κ × β)) (k j : κ) (hj : j ≠ k) : aget (adel L k) j = aget L j := by
  unfold aget adel
  rw [List.find?_filter]
  congr 2
  funext x
  by_cases h : x.1 = j
  · simp [h, hj]
  · simp [h]
theorem aget_adel_same {β : Type} (L : List (κ × β)) (k : κ) : aget (adel L k) k = none := by
  unfold aget adel
  rw [List.find?_filter]
  simp

theorem KMap.kept {enc : κ → Value} {S : Nat → Prop} {w w' : World} {m : Nat} {L : List (κ × Value)} (h : KMap enc w m L) (k : Kp S w w') (hs : S m) : KMap enc w' m L := by
  obtain ⟨es, ck, hb, hst, hL⟩ := h
  exact ⟨es, ck, k.heap hb hs, hst, hL⟩
theorem KMap.all {enc : κ → Value} {w w' : World} {m : Nat} {L : List (κ × Value)} (h : KMap enc w m L) (k : Kp All w w') : KMap enc w' m L := h.kept k trivial
theorem KMap.new (enc : κ → Value) (w : World) : KMap enc (w.alloc (.map #[] 0)) w.heap.size [] := ⟨_, _, blk_new w _, stamped_empty 0, rfl⟩

theorem KMap.keys {P : Program} {kt : TypeId} {d : TypeDesc} {enc : κ → Value} (K : KeyEnc P kt d enc) {es : Array MapEntry} {L : List (κ × Value)} (hL : es.toList.map (fun e => (e.key, e.val)) = L.map (fun x => (enc x.1, x.2))) :
    ∀ x ∈ es.toList, IsKey d x.key := by
  intro x hx
  have : (x.key, x.val) ∈ L.map (fun x => (enc x.1, x.2)) := hL ▸ List.mem_map.2 ⟨x, hx, rfl⟩
  obtain ⟨y, _, hy⟩ := List.mem_map.1 this
  rw [← (Prod.mk.inj hy).1]; exact K.key _

theorem KMap.nodup {P : Program} {kt : TypeId} {d : TypeDesc} {enc : κ → Value} (K : KeyEnc P kt d enc) {w : World} {m : Nat} {L : List (κ × Value)} (h : KMap enc w m L) : (L.map (·.1)).Nodup := by
  obtain ⟨es, ck, hb, hst, hL⟩ := h
  have h1 : es.toList.map (·.key) = L.map (fun x => enc x.1) := by
    have := congrArg (List.map Prod.fst) hL
    simpa [List.map_map, Function.comp_def] using this
  have h2 := hst.2.2
  rw [h1] at h2
  have : (L.map (fun x => enc x.1)) = (L.map (·.1)).map enc := by simp [List.map_map, Function.comp_def]
  rw [this] at h2
  exact List.Pairwise.of_map enc (fun a b hab e => hab (e ▸ rfl)) h2

theorem find_at {P : Program} {kt : TypeId} {d : TypeDesc} {enc : κ → Value} (K : KeyEnc P kt d enc) {es : List MapEntry} {L : List (κ × Value)} (k : κ) (hL : es.map (fun e => (e.key, e.val)) = L.map (fun x => (enc x.1, x.2))) :
    (Instr.findNow d (enc k) es 0 = some none ∧ aget L k = none) ∨ ∃ j e, Instr.findNow d (enc k) es 0 = some (some (j, e.val)) ∧ es[j]? = some e ∧ e.key = enc k ∧ aget L k = some e.val ∧ L[j]? = some (k, e.val) ∧ ∀ i < j, ∀ x, L[i]? = some x → x.1 ≠ k := by
  suffices H : ∀ (es : List MapEntry) (L : List (κ × Value)) (n : Nat), es.map (fun e => (e.key, e.val)) = L.map (fun x => (enc x.1, x.2)) →
      (Instr.findNow d (enc k) es n = some none ∧ aget L k = none) ∨ ∃ j e, Instr.findNow d (enc k) es n = some (some (n + j, e.val)) ∧ es[j]? = some e ∧ e.key = enc k ∧ aget L k = some e.val ∧ L[j]? = some (k, e.val) ∧ ∀ i < j, ∀ x, L[i]? = some x → x.1 ≠ k by
    have := H es L 0 hL
    simpa using this
  intro es
  induction es with
  | nil =>
    intro L n hL
    cases L with
    | nil => exact .inl ⟨rfl, rfl⟩
    | cons x L => simp at hL
  | cons e es ih =>
    intro L n hL
    cases L with
    | nil => simp at hL
    | cons x L =>
      simp only [List.map_cons, List.cons.injEq, Prod.mk.injEq] at hL
      obtain ⟨⟨hk, hv⟩, hL⟩ := hL
      obtain ⟨r, hr, hiff⟩ := sameNow_of_keys (K.key k) (K.key x.1)
      by_cases hx : x.1 = k
      · have hr' : r = true := hiff.2 (by rw [hx])
        refine .inr ⟨0, e, ?_, rfl, by rw [hk, hx], ?_, ?_, by simp⟩
        · simp [Instr.findNow, hk, hr, hr']
        · simp [aget, hx, hv]
        · simp [← hx, hv]
      · have hr' : r = false := by
          cases r with
          | false => rfl
          | true => exact absurd (K.inj _ _ (hiff.1 rfl)).symm hx
        rcases ih L (n + 1) hL with ⟨h1, h2⟩ | ⟨j, e', h1, h2, h3, h4, h5, h6⟩
        · refine .inl ⟨by simp [Instr.findNow, hk, hr, hr', h1], ?_⟩
          simpa [aget, hx] using h2
        · refine .inr ⟨j + 1, e', ?_, by simpa using h2, h3, ?_, by simpa using h5, ?_⟩
          · simp [Instr.findNow, hk, hr, hr', h1]; omega
          · simpa [aget, hx] using h4
          · intro i hi y hy
            cases i with
            | zero => simp at hy; rw [← hy]; exact hx
            | succ i => exact h6 i (by omega) y (by simpa using hy)

theorem KMap.lookup {P : Program} {t kt et : TypeId} {d : TypeDesc} {enc : κ → Value} (K : KeyEnc P kt d enc) (ht : P.underlying t = some (.map kt et)) {w : World} {m : Nat} {L : List (κ × Value)} (h : KMap enc w m L) (k : κ) (z : Value)
    (hz : (zeroValue et).run P w = .ok z w) :
    (Instr.lookup t (.map (some m)) (enc k) true).run P w = .ok (.tuple #[(aget L k).getD z, .bool (aget L k).isSome]) w ∧
    (Instr.lookup t (.map (some m)) (enc k) false).run P w = .ok ((aget L k).getD z) w := by
  obtain ⟨es, ck, hb, hst, hL⟩ := h
  have hc := run_checkKey (P := P) (w := w) K.kind (K.key k) es.isEmpty 9999
  rcases find_at K k hL with ⟨h1, h2⟩ | ⟨j, e, h1, _, _, h4, _, _⟩
  · have hf := run_findKey (P := P) (w := w) K.kind h1
    constructor <;> simp [Instr.lookup, run_underlying ht, MapKept.run_getObj_map hb, hc, hf, hz, h2, Result.andThen]
  · have hf := run_findKey (P := P) (w := w) K.kind h1
    constructor <;> simp [Instr.lookup, run_underlying ht, MapKept.run_getObj_map hb, hc, hf, h4, Result.andThen]

theorem KMap.len {P : Program} {t kt et ty : TypeId} {enc : κ → Value} (ht : P.underlying t = some (.map kt et)) {w : World} {m : Nat} {L : List (κ × Value)} (h : KMap enc w m L) :
    (Builtin.len_ #[t] ty #[.map (some m)]).run P w = .ok (.int .i64 L.length) w := by
  obtain ⟨es, ck, hb, hst, hL⟩ := h
  have hl : es.size = L.length := by have := congrArg List.length hL; simpa using this
  simp [Builtin.len_, run_underlying ht, MapKept.run_getObj_map hb, Result.andThen, goInt, hl]

theorem KMap.update {P : Program} {t kt et : TypeId} {d : TypeDesc} {enc : κ → Value} (K : KeyEnc P kt d enc) (ht : P.underlying t = some (.map kt et)) {w : World} {m : Nat} {L : List (κ × Value)} (h : KMap enc w m L) (k : κ) (v : Value) :
    ∃ o, (Instr.mapUpdate t (.map (some m)) (enc k) v).run P w = .ok () { w with heap := w.heap.setIfInBounds m o } ∧ KMap enc { w with heap := w.heap.setIfInBounds m o } m (aset L k v) := by
  obtain ⟨es, ck, hb, hst, hL⟩ := h
  have hc := run_checkKey (P := P) (w := w) K.kind (K.key k) false 9999
  rcases find_at K k hL with ⟨h1, h2⟩ | ⟨j, e, h1, hj, hke, h4, hLj, hlt⟩
  · have hf := run_findKey (P := P) (w := w) K.kind h1
    refine ⟨.map (es.push { key := enc k, val := v, born := ck }) (ck + 1), ?_, ?_⟩
    · simp [Instr.mapUpdate, run_underlying ht, MapKept.run_getObj_map hb, hc, hf, MapKept.run_setObj_map _ hb, Result.andThen]
    · refine ⟨_, _, (heap_set hb).1, stamped_push hst ?_, ?_⟩
      · intro x hx e
        have hn : ∀ y ∈ L, y.1 ≠ k := by
          intro y hy hyk
          simp only [aget, Option.map_eq_none_iff, List.find?_eq_none] at h2
          exact h2 y hy (by simpa using hyk)
        have : (x.key, x.val) ∈ L.map (fun x => (enc x.1, x.2)) := hL ▸ List.mem_map.2 ⟨x, hx, rfl⟩
        obtain ⟨y, hy, hyx⟩ := List.mem_map.1 this
        exact hn y hy (K.inj _ _ ((Prod.mk.inj hyx).1.trans e))
      · simp [aset, h2, hL]
  · have hf := run_findKey (P := P) (w := w) K.kind h1
    have hjs : j < es.size := by simpa using (List.getElem?_eq_some_iff.1 hj).1
    have hej : es[j]? = some e := by simpa using hj
    refine ⟨.map (es.modify j fun e => { e with key := enc k, val := v }) ck, ?_, ?_⟩
    · have hks : ((es[j]?.map (·.key)).getD (enc k)) = enc k := by simp [hej, hke]
      simp [Instr.mapUpdate, run_underlying ht, MapKept.run_getObj_map hb, hc, hf, MapKept.run_setObj_map _ hb, Result.andThen, hej, hke, run_keyThatStays (K.key k)]
    · refine ⟨_, _, (heap_set hb).1, stamped_modify hst j _ (fun _ _ => rfl) ?_, ?_⟩
      · intro e' _ he'
        rw [hej] at he'; cases he'; exact hke.symm
      · have hnd : (L.map (·.1)).Nodup := KMap.nodup K ⟨es, ck, hb, hst, hL⟩
        apply List.ext_getElem?
        intro i
        have hLi := congrArg (fun l => l[i]?) hL
        simp only [List.getElem?_map, Array.getElem?_toList] at hLi
        simp only [aset, h4, Option.isSome_some, if_true, List.getElem?_map, Array.getElem?_toList, Array.getElem?_modify]
        by_cases hij : j = i
        · subst hij
          simp [hej, hLj]
        · rw [if_neg hij]
          cases hl : L[i]? with
          | none => rw [hl] at hLi; simpa using hLi
          | some x =>
            have hx : x.1 ≠ k := by
              intro hxk
              have hi' : i < L.length := (List.getElem?_eq_some_iff.1 hl).1
              have hj' : j < L.length := (List.getElem?_eq_some_iff.1 hLj).1
              have := (List.getElem?_inj (l := L.map (·.1)) (i := j) (j := i) (by simpa using hj') hnd).1 (by simp [hl, hLj, hxk])
              exact hij this
            rw [hl] at hLi
            simpa [hx] using hLi

theorem map_eraseIdx' {α β : Type} (f : α → β) : ∀ (l : List α) (i : Nat), (l.eraseIdx i).map f = (l.map f).eraseIdx i
  | [], _ => rfl
  | _ :: _, 0 => rfl
  | x :: l, i + 1 => by simp [map_eraseIdx' f l i]

theorem adel_idx {k : κ} {v : Value} : ∀ {L : List (κ × Value)} {j : Nat}, (L.map (·.1)).Nodup → L[j]? = some (k, v) → adel L k = L.eraseIdx j
  | [], j, _, h => by simp at h
  | x :: L, 0, hn, h => by
    simp only [List.getElem?_cons_zero, Option.some.injEq] at h
    subst h
    simp only [List.map_cons, List.nodup_cons] at hn
    simp only [adel, List.eraseIdx_zero, List.tail_cons]
    rw [List.filter_cons_of_neg (by simp)]
    apply List.filter_eq_self.2
    intro y hy
    simp only [ne_eq, decide_eq_true_eq]
    intro e
    exact hn.1 (List.mem_map.2 ⟨y, hy, e⟩)
  | x :: L, j + 1, hn, h => by
    simp only [List.map_cons, List.nodup_cons] at hn
    have hx : x.1 ≠ k := by
      intro e
      have := List.mem_of_getElem? (by simpa using h : L[j]? = some (k, v))
      exact hn.1 (List.mem_map.2 ⟨_, this, e.symm⟩)
    have ih := adel_idx hn.2 (by simpa using h : L[j]? = some (k, v))
    simp only [adel] at ih ⊢
    rw [List.filter_cons_of_pos (by simpa using hx), ih, List.eraseIdx_cons_succ]

theorem KMap.delete {P : Program} {t kt et ty : TypeId} {d : TypeDesc} {enc : κ → Value} (K : KeyEnc P kt d enc) (ht : P.underlying t = some (.map kt et)) {w : World} {m : Nat} {L : List (κ × Value)} (h : KMap enc w m L) (k : κ) :
    ∃ o, (Builtin.delete_ #[t, kt] ty #[.map (some m), enc k]).run P w = .ok (.tuple #[]) { w with heap := w.heap.setIfInBounds m o } ∧ KMap enc { w with heap := w.heap.setIfInBounds m o } m (adel L k) := by
  have hnd : (L.map (·.1)).Nodup := KMap.nodup K h
  obtain ⟨es, ck, hb, hst, hL⟩ := h
  have hc := run_checkKey (P := P) (w := w) K.kind (K.key k) es.isEmpty 9999
  rcases find_at K k hL with ⟨h1, h2⟩ | ⟨j, e, h1, hj, hke, h4, hLj, hlt⟩
  · have hf := run_findKey (P := P) (w := w) K.kind h1
    refine ⟨.map es ck, ?_, ?_⟩
    · simp [Builtin.delete_, run_underlying ht, MapKept.run_getObj_map hb, hc, hf, MapKept.run_setObj_map _ hb, Result.andThen]
    · refine ⟨_, _, (heap_set hb).1, hst, ?_⟩
      rw [hL]
      congr 1
      symm
      apply List.filter_eq_self.2
      intro y hy
      simp only [aget, Option.map_eq_none_iff, List.find?_eq_none] at h2
      have := h2 y hy
      simpa using this
  · have hf := run_findKey (P := P) (w := w) K.kind h1
    have hjs : j < es.size := by simpa using (List.getElem?_eq_some_iff.1 hj).1
    refine ⟨.map (es.eraseIdxIfInBounds j) ck, ?_, ?_⟩
    · simp [Builtin.delete_, run_underlying ht, MapKept.run_getObj_map hb, hc, hf, MapKept.run_setObj_map _ hb, Result.andThen]
    · refine ⟨_, _, (heap_set hb).1, stamped_erase hst j, ?_⟩
      have hdel : adel L k = L.eraseIdx j := adel_idx hnd hLj
      rw [hdel]
      unfold Array.eraseIdxIfInBounds
      rw [dif_pos hjs]
      simp only [Array.toList_eraseIdx, map_eraseIdx', hL]
theorem KMap.update2 {P : Program} {t kt et : TypeId} {d : TypeDesc} {enc : κ → Value} (K : KeyEnc P kt d enc) (ht : P.underlying t = some (.map kt et)) {w : World} {m : Nat} {L : List (κ × Value)} (h : KMap enc w m L) (k : κ) (v : Value) :
    ∃ w', (Instr.mapUpdate t (.map (some m)) (enc k) v).run P w = .ok () w' ∧ KMap enc w' m (aset L k v) ∧ Kp (fun b => b ≠ m) w w' := by
  obtain ⟨o, h1, h2⟩ := h.update K ht k v
  exact ⟨_, h1, h2, (Kp.refl _ w).setHeap (fun _ h => h rfl) _⟩

/-! at the operation -/
section
variable {P : Program} {ops : Array Oper} {K : Act → World → Prop} {rest : List Oper} {o : Oper} {a : Act} {Q : Exit → Act → World → Prop} {w : World} {t kt et : TypeId} {d : TypeDesc} {enc : κ → Value} {m : Nat} {L : List (κ × Value)}
theorem wp_lookup_ok (KE : KeyEnc P kt d enc) (ht : P.underlying t = some (.map kt et)) (h : KMap enc w m L) (k : κ) {z v : Value} (hz : (zeroValue et).run P w = .ok z w) (hv : (aget L k).getD z = v) {b : Bool} (hb : (aget L k).isSome = b) (mo xo : Operand)
    (hop : o.op = Op.lookup t mo xo true) (hm : a.eval mo = .map (some m)) (hx : a.eval xo = enc k) (hK : K (a.put o.dst (.tuple #[v, .bool b])) w) : o.wp P a w K Q := by
  unfold Oper.wp execOp
  simp only [hop, hm, hx, Sem.run_bind, (h.lookup KE ht k z hz).1, hv, hb, Result.andThen_ok]
  exact hK
theorem wpList_lookup_ok (KE : KeyEnc P kt d enc) (ht : P.underlying t = some (.map kt et)) (h : KMap enc w m L) (k : κ) {z v : Value} (hz : (zeroValue et).run P w = .ok z w) (hv : (aget L k).getD z = v) {b : Bool} (hb : (aget L k).isSome = b) (hg : o.guard = none) (mo xo : Operand)
    (hop : o.op = Op.lookup t mo xo true) (hm : a.eval mo = .map (some m)) (hx : a.eval xo = enc k) (hK : wpList P ops Q rest (a.put o.dst (.tuple #[v, .bool b])) w) : wpList P ops Q (o :: rest) a w :=
  wpList_plain hg fun K2 hK2 => wp_lookup_ok KE ht h k hz hv hb mo xo hop hm hx (hK2 _ _ hK)
theorem wp_lookup_val (KE : KeyEnc P kt d enc) (ht : P.underlying t = some (.map kt et)) (h : KMap enc w m L) (k : κ) {z v : Value} (hz : (zeroValue et).run P w = .ok z w) (hv : (aget L k).getD z = v) (mo xo : Operand)
    (hop : o.op = Op.lookup t mo xo false) (hm : a.eval mo = .map (some m)) (hx : a.eval xo = enc k) (hK : K (a.put o.dst v) w) : o.wp P a w K Q := by
  unfold Oper.wp execOp
  simp only [hop, hm, hx, Sem.run_bind, (h.lookup KE ht k z hz).2, hv, Result.andThen_ok]
  exact hK
theorem wpList_lookup_val (KE : KeyEnc P kt d enc) (ht : P.underlying t = some (.map kt et)) (h : KMap enc w m L) (k : κ) {z v : Value} (hz : (zeroValue et).run P w = .ok z w) (hv : (aget L k).getD z = v) (hg : o.guard = none) (mo xo : Operand)
    (hop : o.op = Op.lookup t mo xo false) (hm : a.eval mo = .map (some m)) (hx : a.eval xo = enc k) (hK : wpList P ops Q rest (a.put o.dst v) w) : wpList P ops Q (o :: rest) a w :=
  wpList_plain hg fun K2 hK2 => wp_lookup_val KE ht h k hz hv mo xo hop hm hx (hK2 _ _ hK)
theorem wp_maplen (ht : P.underlying t = some (.map kt et)) (h : KMap enc w m L) (mo : Operand) (hop : o.op = .call { callee := .builtin .len, args := #[mo], argTypes := #[t] }) (hm : a.eval mo = .map (some m))
    (hK : K (a.put o.dst (.int .i64 L.length)) w) : o.wp P a w K Q := by
  unfold Oper.wp execOp
  simp only [hop, resolve, invoke, builtin, List.map_toArray, List.map_cons, List.map_nil, hm, Sem.run_bind, Sem.run_pure, KMap.len (ty := o.type) ht h, Result.andThen_ok]
  exact hK
theorem wpList_maplen (ht : P.underlying t = some (.map kt et)) (h : KMap enc w m L) (hg : o.guard = none) (mo : Operand) (hop : o.op = .call { callee := .builtin .len, args := #[mo], argTypes := #[t] }) (hm : a.eval mo = .map (some m))
    (hK : wpList P ops Q rest (a.put o.dst (.int .i64 L.length)) w) : wpList P ops Q (o :: rest) a w :=
  wpList_plain hg fun K2 hK2 => wp_maplen ht h mo hop hm (hK2 _ _ hK)
theorem wp_mapset (KE : KeyEnc P kt d enc) (ht : P.underlying t = some (.map kt et)) (h : KMap enc w m L) (k : κ) (v : Value) (mo xo vo : Operand)
    (hop : o.op = Op.mapUpdate t mo xo vo) (hm : a.eval mo = .map (some m)) (hx : a.eval xo = enc k) (hv : a.eval vo = v) (hK : ∀ w', KMap enc w' m (aset L k v) → Kp (fun b => b ≠ m) w w' → K (a.put o.dst undef) w') : o.wp P a w K Q := by
  obtain ⟨ob, hr, hn⟩ := h.update KE ht k v
  unfold Oper.wp execOp
  simp only [hop, hm, hx, hv, Sem.run_bind, hr, Result.andThen_ok]
  exact (hK _ hn ((Kp.refl _ w).setHeap (fun _ h => h rfl) _))
theorem wpList_mapset (KE : KeyEnc P kt d enc) (ht : P.underlying t = some (.map kt et)) (h : KMap enc w m L) (k : κ) (v : Value) (hg : o.guard = none) (mo xo vo : Operand)
    (hop : o.op = Op.mapUpdate t mo xo vo) (hm : a.eval mo = .map (some m)) (hx : a.eval xo = enc k) (hv : a.eval vo = v) (hK : ∀ w', KMap enc w' m (aset L k v) → Kp (fun b => b ≠ m) w w' → wpList P ops Q rest (a.put o.dst undef) w') : wpList P ops Q (o :: rest) a w :=
  wpList_plain hg fun K2 hK2 => wp_mapset KE ht h k v mo xo vo hop hm hx hv fun w' h1 h2 => hK2 _ _ (hK w' h1 h2)
theorem wp_mapdel (KE : KeyEnc P kt d enc) (ht : P.underlying t = some (.map kt et)) (h : KMap enc w m L) (k : κ) (mo xo : Operand)
    (hop : o.op = .call { callee := .builtin .delete, args := #[mo, xo], argTypes := #[t, kt] }) (hm : a.eval mo = .map (some m)) (hx : a.eval xo = enc k) (hK : ∀ w', KMap enc w' m (adel L k) → Kp (fun b => b ≠ m) w w' → K (a.put o.dst (.tuple #[])) w') : o.wp P a w K Q := by
  obtain ⟨ob, hr, hn⟩ := h.delete (ty := o.type) KE ht k
  unfold Oper.wp execOp
  simp only [hop, resolve, invoke, builtin, List.map_toArray, List.map_cons, List.map_nil, hm, hx, Sem.run_bind, Sem.run_pure, hr, Result.andThen_ok]
  exact (hK _ hn ((Kp.refl _ w).setHeap (fun _ h => h rfl) _))
theorem wpList_mapdel (KE : KeyEnc P kt d enc) (ht : P.underlying t = some (.map kt et)) (h : KMap enc w m L) (k : κ) (hg : o.guard = none) (mo xo : Operand)
    (hop : o.op = .call { callee := .builtin .delete, args := #[mo, xo], argTypes := #[t, kt] }) (hm : a.eval mo = .map (some m)) (hx : a.eval xo = enc k) (hK : ∀ w', KMap enc w' m (adel L k) → Kp (fun b => b ≠ m) w w' → wpList P ops Q rest (a.put o.dst (.tuple #[])) w') : wpList P ops Q (o :: rest) a w :=
  wpList_plain hg fun K2 hK2 => wp_mapdel KE ht h k mo xo hop hm hx fun w' h1 h2 => hK2 _ _ (hK w' h1 h2)
end
end maps

/-! ### Slices -/
/-- A row of cells at a place. -/
def Rd (b o : Nat) (xs : List Value) (w : World) : Prop := ∀ j u, xs[j]? = some u → w.cell? ⟨b, o + j, none⟩ = some u
/-- A slice's header, and the cells of its n elements. -/
def Sl (A : Option Addr) (n c sz : Nat) (xs : List Value) (w : World) : Prop := xs.length = n * sz ∧ n ≤ c ∧ (0 < n → ∃ b o, A = some ⟨b, o, none⟩ ∧ Rd b o xs w)

theorem add_lit0 (b o j : Nat) : (⟨b, o, none⟩ : Addr).add j = ⟨b, o + j, none⟩ := by unfold Addr.add; split <;> simp_all

theorem sl_own {base e sz n : Nat} {v : Value} {xs : List Value} {w : World} (h : w.ownsRow base e sz v n xs) : ∃ A c, v = .slice A n c ∧ Foot (fun b => some b = v.ownBlock) (Sl A n c sz xs) w := by
  obtain ⟨h1, h2⟩ := h
  rcases h2 with ⟨rfl, rfl⟩ | ⟨g, cap, cur, rfl, hb, hh, hn, hc, hs, ht⟩
  · exact ⟨none, 0, rfl, fun u _ => ⟨h1, Nat.le_refl _, fun h => absurd h (by omega)⟩⟩
  · refine ⟨_, _, rfl, fun u hu => ⟨h1, hn, fun _ => ⟨g, 0, rfl, fun j x hj => ?_⟩⟩⟩
    have hg := hu.heap hh (by simp [Value.ownBlock])
    rw [← ht, List.getElem?_take] at hj
    rw [blk_cell hg, Nat.zero_add]
    split at hj
    · rw [← hj]; simp
    · cases hj

/-- A slice type, its element's type, cells and bytes an element, the zero value. -/
structure El (P : Program) (t e sz by_ : Nat) (z : Value) : Prop where
  sl : P.underlying t = some (.slice e)
  info : (P.info? e).map (fun i => (i.zero, i.size, i.bytes)) = some (some z, sz, by_)
  cells : z.cells.size = sz
  pos : 0 < sz
  wide : 0 < by_

/-- append of a slice onto a row of one's own. -/
theorem run_app {P : Program} {w : World} {base t e sz by_ : Nat} {z : Value} (E : El P t e sz by_ z) (ty : TypeId) {v : Value} {n : Nat} {xs : List Value} (hown : w.ownsRow base e sz v n xs)
    {A : Option Addr} {m c : Nat} {news : List Value} (hx : Sl A m c sz news w) (h1 : ∀ u ∈ news, u.oneCell' = true) (hb : (n + m) * by_ ≤ 140737488355328) (hbase : base ≤ w.heap.size) :
    ∃ v' w', (Builtin.append_ #[t, t] ty #[v, .slice A m c]).run P w = .ok v' w' ∧ w'.ownsRow base e sz v' (n + m) (xs ++ news) ∧ w.grownBy w' v.ownBlock ∧ (v'.ownBlock = v.ownBlock ∨ v'.ownBlock = some w.heap.size) ∧ (v' = .slice none 0 0 ↔ v = .slice none 0 0 ∧ m = 0) := by
  obtain ⟨i, hi, hz, hs, hby⟩ := info_parts E.info
  have hle : n + m ≤ (n + m) * by_ := Nat.le_mul_of_pos_right _ E.wide
  have h63 : n + m ≤ maxLen := by simp only [maxLen]; omega
  cases A with
  | some a =>
    have hnews : ∀ j u, news[j]? = some u → w.cell? (a.add j) = some u := by
      intro j u hj
      have hm : 0 < m := by
        rcases Nat.eq_zero_or_pos m with h0 | h0
        · exfalso
          have hn : news = [] := List.eq_nil_of_length_eq_zero (by rw [hx.1, h0, Nat.zero_mul])
          rw [hn] at hj; cases hj
        · exact h0
      obtain ⟨b, o, ha, hr⟩ := hx.2.2 hm
      cases ha
      rw [add_lit0]
      exact hr j u hj
    obtain ⟨v', w', hr, h2, h3, h4, h5⟩ := run_append_own_at (P := P) w base t ty e i z sz by_ E.sl hi hz hs hby E.cells E.pos v n xs hown a m c news hx.1 hnews h1 h63 hb hbase
    exact ⟨v', w', hr, h2, h3, h5, h4⟩
  | none =>
    have hm : m = 0 := by
      rcases Nat.eq_zero_or_pos m with h0 | h0
      · exact h0
      · obtain ⟨_, _, ha, _⟩ := hx.2.2 h0; cases ha
    subst hm
    have hn : news = [] := List.eq_nil_of_length_eq_zero (by rw [hx.1, Nat.zero_mul])
    subst hn
    rcases hown.2 with ⟨rfl, rfl⟩ | ⟨g, cap, cur, rfl, hbg, hg, hnc, hcm, hcs, htake⟩
    · refine ⟨.slice none 0 0, w, ?_, by simpa using hown, ⟨rfl, rfl, rfl, Nat.le_refl _, fun _ _ _ => rfl⟩, .inl rfl, by simp⟩
      simp [Builtin.append_, run_underlying E.sl, sizeOf, typeInfo, hi, Builtin.lenOf, Builtin.firstCells, loadCells, loadCellsFrom]
    · refine ⟨.slice (some ⟨g, 0, none⟩) n cap, w, ?_, by simpa using hown, ⟨rfl, rfl, rfl, Nat.le_refl _, fun _ _ _ => rfl⟩, .inl rfl, by simp⟩
      simp [Builtin.append_, run_underlying E.sl, sizeOf, typeInfo, hi, Builtin.lenOf, Builtin.firstCells, hnc, storeCells]

theorem wp_app {P : Program} {w : World} {o : Oper} {a : Act} {Q : Exit → Act → World → Prop} {K : Act → World → Prop} {base t e sz by_ : Nat} {z : Value} (E : El P t e sz by_ z) {v : Value} {n : Nat} {xs : List Value} (hown : w.ownsRow base e sz v n xs)
    {A : Option Addr} {m c : Nat} {news : List Value} (hx : Sl A m c sz news w) (h1 : ∀ u ∈ news, u.oneCell' = true) (hb : (n + m) * by_ ≤ 140737488355328) (hbase : base ≤ w.heap.size) (s x : Operand)
    (ho : o.op = .call { callee := .builtin .append, args := #[s, x], argTypes := #[t, t] }) (hs : a.eval s = v) (hxe : a.eval x = .slice A m c)
    (h : ∀ v' w', w'.ownsRow base e sz v' (n + m) (xs ++ news) → w.grownBy w' v.ownBlock → (v'.ownBlock = v.ownBlock ∨ v'.ownBlock = some w.heap.size) → (v' = .slice none 0 0 ↔ v = .slice none 0 0 ∧ m = 0) → K (a.put o.dst v') w') :
    o.wp P a w K Q := by
  obtain ⟨v', w', hr, h2, h3, h4, h5⟩ := run_app (P := P) E o.type hown hx h1 hb hbase
  unfold Oper.wp execOp
  simp only [ho, resolve, invoke, builtin, Sem.run_bind, Sem.run_pure, Result.andThen_ok, List.map_toArray, List.map_cons, List.map_nil, hs, hxe, hr]
  exact h v' w' h2 h3 h4 h5

theorem wpList_app {P : Program} {w : World} {ops : Array Oper} {rest : List Oper} {o : Oper} {a : Act} {Q : Exit → Act → World → Prop} {base t e sz by_ : Nat} {z : Value} (E : El P t e sz by_ z) {v : Value} {n : Nat} {xs : List Value} (hown : w.ownsRow base e sz v n xs)
    {A : Option Addr} {m c : Nat} {news : List Value} (hx : Sl A m c sz news w) (h1 : ∀ u ∈ news, u.oneCell' = true) (hb : (n + m) * by_ ≤ 140737488355328) (hbase : base ≤ w.heap.size) (hgd : o.guard = none) (s x : Operand)
    (ho : o.op = .call { callee := .builtin .append, args := #[s, x], argTypes := #[t, t] }) (hs : a.eval s = v) (hxe : a.eval x = .slice A m c)
    (h : ∀ v' w', w'.ownsRow base e sz v' (n + m) (xs ++ news) → w.grownBy w' v.ownBlock → (v'.ownBlock = v.ownBlock ∨ v'.ownBlock = some w.heap.size) → (v' = .slice none 0 0 ↔ v = .slice none 0 0 ∧ m = 0) → wpList P ops Q rest (a.put o.dst v') w') :
    wpList P ops Q (o :: rest) a w := by
  exact wpList_plain hgd fun K hK => wp_app E hown hx h1 hb hbase s x ho hs hxe fun v' w' h1 h2 h3 h4 => hK _ _ (h v' w' h1 h2 h3 h4)

theorem run_build0 {P : Program} {w : World} {t e sz by_ : Nat} {z : Value} (E : El P t e sz by_ z) : (Instr.buildSlice t 0 #[]).run P w = .ok (.slice (some ⟨w.heap.size, 0, none⟩) 0 0) (w.alloc (.cells #[] e)) := by
  obtain ⟨i, hi, hz, hs, hby⟩ := info_parts E.info
  simp [Instr.buildSlice, run_underlying E.sl, sizeOf, typeInfo, hi, newRow, Instr.fill, show (Array.range 0) = #[] from by decide]
theorem own_build0 {w : World} {e sz base : Nat} (hb : base ≤ w.heap.size) : (w.alloc (.cells #[] e)).ownsRow base e sz (.slice (some ⟨w.heap.size, 0, none⟩) 0 0) 0 [] := World.ownsRow_made w #[] 0 hb (by simp [maxLen]) (by simp)

/-! ### Structs held against each other -/
section
variable {P : Program} {d : Nat} {xs ys : Array Value} {f : Field} {fs : List Field} {a b : Value} {r s : Bool} {w : World}
theorem eqf_cons (hn : (f.name == "_") = false) (ha : (part f.type xs f.offset).run P w = .ok a w) (hb : (part f.type ys f.offset).run P w = .ok b w) (he : (Op.equalIn d f.type a b).run P w = .ok r w) (hr : (Op.eqFields d xs ys fs).run P w = .ok s w) : (Op.eqFields d xs ys (f :: fs)).run P w = .ok (r && s) w := by
  have hn' : f.name ≠ "_" := by simpa using hn
  rw [Op.eqFields]
  simp only [if_pos hn', Sem.run_bind, ha, hb, he, Result.andThen_ok]
  cases r
  · simp
  · simpa using hr
theorem eqf_nil : (Op.eqFields d xs ys []).run P w = .ok true w := by simp [Op.eqFields]
theorem eq_of_fields {t : TypeId} {fs : Array Field} (hu : P.underlying t = some (.struct fs)) (hp : P.stoodInHeld t = false) (h : (Op.eqFields d xs ys fs.toList).run P w = .ok r w) : (Op.equalIn (d + 1) t (.agg xs) (.agg ys)).run P w = .ok r w := by
  have hf : P.fieldsOf t = fs := by simp [Program.fieldsOf, hu]
  rw [run_equalIn_struct (P := P) w d t xs ys (by rw [hf]; exact hu) hp, hf]
  exact h
end

theorem run_max2 {P : Program} (w : World) (t ty : TypeId) (k : IntKind) (a b : Int) : (Builtin.max_ #[t, t] ty #[.int k a, .int k b]).run P w = .ok (.int k (max a b)) w := by
  have h : (if b > a then b else a) = max a b := by rw [Int.max_def]; split <;> split <;> omega
  simp [Builtin.max_, Builtin.max2]
  simpa using h
theorem run_min2 {P : Program} (w : World) (t ty : TypeId) (k : IntKind) (a b : Int) : (Builtin.min_ #[t, t] ty #[.int k a, .int k b]).run P w = .ok (.int k (min a b)) w := by
  have h : (if b < a then b else a) = min a b := by rw [Int.min_def]; split <;> split <;> omega
  simp [Builtin.min_, Builtin.min2]
  simpa using h
end Go.Proofs.YtbkhademplgicaaGreatDoor

namespace Go.Proofs.YtbkhademplgicaaGreatDoor
open Go.RowKit
set_option linter.unusedVariables false
theorem el8 : El Tryz.prog 25 5 1 1 (.int .u8 0) := ⟨Tryz.underlying25, by kernel_rfl, rfl, by decide, by decide⟩
abbrev By := List UInt8
def u8s (l : By) : List Value := l.map fun x => .int .u8 x.toNat
theorem u8s_one (l : By) : ∀ u ∈ u8s l, u.oneCell' = true := by
  intro u hu
  obtain ⟨x, _, rfl⟩ := List.mem_map.1 hu
  rfl
@[simp] theorem u8s_len (l : By) : (u8s l).length = l.length := by simp [u8s]
theorem u8s_append (a b : By) : u8s (a ++ b) = u8s a ++ u8s b := by simp [u8s]
theorem u8s_take (a : By) (n : Nat) : u8s (a.take n) = (u8s a).take n := by simp [u8s, List.map_take]

theorem own_at {w : World} {base e sz n : Nat} {v : Value} {xs : List Value} (h : w.ownsRow base e sz v n xs) : (v = .slice none 0 0 ∧ n = 0 ∧ xs = []) ∨ ∃ g cap cur, v = .slice (some ⟨g, 0, none⟩) n cap ∧ w.heap[g]? = some (.cells cur e (0, 0)) ∧ base ≤ g ∧ ∀ j u, xs[j]? = some u → w.cell? ⟨g, j, none⟩ = some u := by
  rcases h.2 with ⟨rfl, rfl⟩ | ⟨g, cap, cur, rfl, hb, hg, hn, hc, hs, ht⟩
  · exact .inl ⟨rfl, rfl, List.eq_nil_of_length_eq_zero (by rw [h.1, Nat.zero_mul])⟩
  · refine .inr ⟨g, cap, cur, rfl, hg, hb, fun j u hj => ?_⟩
    rw [blk_cell hg, ← Array.getElem?_toList]
    rw [← ht, List.getElem?_take] at hj
    split at hj
    · exact hj
    · cases hj
theorem own_shape {w : World} {base e sz n : Nat} {v : Value} {xs : List Value} (h : w.ownsRow base e sz v n xs) : ∃ A c, v = .slice A n c := by
  rcases own_at h with ⟨rfl, rfl, _⟩ | ⟨g, cap, _, rfl, _⟩
  · exact ⟨_, _, rfl⟩
  · exact ⟨_, _, rfl⟩
theorem own_kept {S : Nat → Prop} {w w' : World} {base e sz n : Nat} {v : Value} {xs : List Value} (h : w.ownsRow base e sz v n xs) (k : Kp S w w') (hs : ∀ b, v.ownBlock = some b → S b) : w'.ownsRow base e sz v n xs := by
  refine ⟨h.1, ?_⟩
  rcases h.2 with hn | ⟨g, cap, cur, rfl, hb, hg, rest⟩
  · exact .inl hn
  · exact .inr ⟨g, cap, cur, rfl, hb, k.heap hg (hs g rfl), rest⟩
theorem own_sl {w : World} {base e n c k : Nat} {A : Option Addr} {xs : List Value} (h : w.ownsRow base e 1 (.slice A n c) n xs) (hk : k ≤ n) : Sl A k c 1 (xs.take k) w ∧ n ≤ c := by
  have hl := h.1
  rcases h.2 with ⟨e1, e2⟩ | ⟨g, cap, cur, e1, _, hg, hn, _⟩
  · injection e1 with eA _ ec
    subst eA ec e2
    obtain rfl : k = 0 := by omega
    exact ⟨⟨by simp, Nat.le_refl _, fun h => absurd h (by omega)⟩, Nat.le_refl _⟩
  · injection e1 with eA _ ec
    subst eA ec
    refine ⟨⟨by rw [List.length_take]; omega, by omega, fun _ => ⟨g, 0, rfl, fun j u hj => ?_⟩⟩, hn⟩
    rw [Nat.zero_add]
    rcases own_at h with ⟨e1, _⟩ | ⟨g', cap', cur', e1, _, _, hat⟩
    · cases e1
    · injection e1 with e1 _ _
      injection e1 with e1
      injection e1 with e1 _ _
      subst e1
      refine hat j u ?_
      rw [List.getElem?_take] at hj
      split at hj
      · exact hj
      · cases hj
theorem sl_new1 (w : World) (a : Value) (t : TypeId) : Sl (some ⟨w.heap.size, 0, none⟩) 1 1 1 [a] (w.alloc (.cells #[a] t)) := by
  refine ⟨rfl, Nat.le_refl _, fun _ => ⟨_, 0, rfl, fun j u hj => ?_⟩⟩
  rw [Nat.zero_add, blk_cell (blk_new w _)]
  simpa using hj
theorem u8_one1 (k : IntKind) (x : Int) : ∀ u ∈ [Value.int k x], u.oneCell' = true := by
  intro u hu
  simp at hu
  subst hu
  rfl
end Go.Proofs.YtbkhademplgicaaGreatDoor

namespace Go.Proofs.YtbkhademplgicaaGreatDoor
open Go.RowKit
set_option linter.unusedVariables false
set_option linter.unusedSimpArgs false
/-- how many bytes a number has behind its first one -/
def beh (u : Nat) : Nat := if u < 128 then 0 else if u < 16384 then 1 else if u < 2097152 then 2 else if u < 268435456 then 3 else if u < 34359738368 then 4 else if u < 4398046511104 then 5 else if u < 562949953421312 then 6 else if u < 72057594037927936 then 7 else 8
def tailb (u : Nat) : Nat → By
  | 0 => []
  | k + 1 => UInt8.ofNat (u / 256 ^ k) :: tailb u k
def first (u : Nat) : Nat := 256 - 2 ^ (8 - beh u) + u / 256 ^ beh u
def enc (u : Nat) : By := UInt8.ofNat (first u) :: tailb u (beh u)
theorem beh_le (u : Nat) : beh u ≤ 8 := by
  unfold beh
  repeat (split; omega)
  omega
theorem beh_lt (u : Nat) (h : beh u < 8) : u < 2 ^ (7 * (beh u + 1)) := by
  unfold beh at h ⊢
  by_cases h1 : u < 128
  · simp only [h1, if_true]
  by_cases h2 : u < 16384
  · simp only [h1, h2, if_true, if_false]
  by_cases h3 : u < 2097152
  · simp only [h1, h2, h3, if_true, if_false]
  by_cases h4 : u < 268435456
  · simp only [h1, h2, h3, h4, if_true, if_false]
  by_cases h5 : u < 34359738368
  · simp only [h1, h2, h3, h4, h5, if_true, if_false]
  by_cases h6 : u < 4398046511104
  · simp only [h1, h2, h3, h4, h5, h6, if_true, if_false]
  by_cases h7 : u < 562949953421312
  · simp only [h1, h2, h3, h4, h5, h6, h7, if_true, if_false]
  by_cases h8 : u < 72057594037927936
  · simp only [h1, h2, h3, h4, h5, h6, h7, h8, if_true, if_false]
  simp only [h1, h2, h3, h4, h5, h6, h7, h8, if_false] at h
  omega
theorem beh_of (u k : Nat) (hk : k ≤ 8) (h1 : k = 0 ∨ 2 ^ (7 * k) ≤ u) (h2 : k = 8 ∨ u < 2 ^ (7 * (k + 1))) : beh u = k := by
  unfold beh
  obtain rfl | rfl | rfl | rfl | rfl | rfl | rfl | rfl | rfl : k = 0 ∨ k = 1 ∨ k = 2 ∨ k = 3 ∨ k = 4 ∨ k = 5 ∨ k = 6 ∨ k = 7 ∨ k = 8 := by omega
  · rw [if_pos (by omega)]
  · rw [if_neg (by omega), if_pos (by omega)]
  · rw [if_neg (by omega), if_neg (by omega), if_pos (by omega)]
  · rw [if_neg (by omega), if_neg (by omega), if_neg (by omega), if_pos (by omega)]
  · rw [if_neg (by omega), if_neg (by omega), if_neg (by omega), if_neg (by omega), if_pos (by omega)]
  · rw [if_neg (by omega), if_neg (by omega), if_neg (by omega), if_neg (by omega), if_neg (by omega), if_pos (by omega)]
  · rw [if_neg (by omega), if_neg (by omega), if_neg (by omega), if_neg (by omega), if_neg (by omega), if_neg (by omega), if_pos (by omega)]
  · rw [if_neg (by omega), if_neg (by omega), if_neg (by omega), if_neg (by omega), if_neg (by omega), if_neg (by omega), if_neg (by omega), if_pos (by omega)]
  · rw [if_neg (by omega), if_neg (by omega), if_neg (by omega), if_neg (by omega), if_neg (by omega), if_neg (by omega), if_neg (by omega), if_neg (by omega)]
theorem beh_bitLen (u : Nat) (hu : u < 2 ^ 64) : min (max ((Lib.bitLen u : Int) - 1) 0 / 7) 8 = (beh u : Int) := by
  by_cases h0 : u = 0
  · subst h0
    decide +kernel
  obtain ⟨h1, h2, h3⟩ := Lib.bitLenAux_bounds 64 u hu h0
  change 1 ≤ Lib.bitLen u at h1
  change 2 ^ (Lib.bitLen u - 1) ≤ u at h2
  change u < 2 ^ Lib.bitLen u at h3
  generalize Lib.bitLen u = L at *
  have e : beh u = min ((L - 1) / 7) 8 := by
    refine beh_of u _ (by omega) ?_ ?_
    · refine .inr (Nat.le_trans (Nat.pow_le_pow_right (by omega) ?_) h2)
      omega
    · by_cases h : (L - 1) / 7 < 8
      · exact .inr (Nat.lt_of_lt_of_le h3 (Nat.pow_le_pow_right (by omega) (by omega)))
      · exact .inl (by omega)
  rw [e]
  omega
theorem tailb_len (u k : Nat) : (tailb u k).length = k := by
  induction k with
  | zero => rfl
  | succ k ih => simp [tailb, ih]
theorem enc_len (u : Nat) : (enc u).length = beh u + 1 := by simp [enc, tailb_len]
theorem enc_len_le (u : Nat) : (enc u).length ≤ 9 := by rw [enc_len]; have := beh_le u; omega
/-- an int without a sign -/
def zig (n : Int) : Nat := (if 0 ≤ n then 2 * n else 2 * n + 18446744073709551617).toNat
theorem zig_lt (n : Int) (h1 : -9223372036854775808 ≤ n) (h2 : n ≤ 9223372036854775807) : zig n < 2 ^ 64 := by
  unfold zig
  split <;> omega
theorem zig_inj {m n : Int} (hm : -9223372036854775808 ≤ m) (hn : -9223372036854775808 ≤ n) (h : zig m = zig n) : m = n := by
  unfold zig at h
  repeat' split at h
  all_goals omega
theorem first_or : ∀ k : Fin 8, ∀ v : Fin 128, v.val < 2 ^ (7 - k.val) → bits .or .u8 ((256 - 2 ^ (8 - k.val) : Nat) : Int) (v.val : Int) = ((256 - 2 ^ (8 - k.val) + v.val : Nat) : Int) := by decide +kernel
theorem first_lt (u : Nat) (hu : u < 2 ^ 64) : first u < 256 := by
  unfold first
  have h8 := beh_le u
  have h := beh_lt u
  generalize beh u = k at *
  obtain rfl | rfl | rfl | rfl | rfl | rfl | rfl | rfl | rfl : k = 0 ∨ k = 1 ∨ k = 2 ∨ k = 3 ∨ k = 4 ∨ k = 5 ∨ k = 6 ∨ k = 7 ∨ k = 8 := by omega
  all_goals simp only [Nat.reduceMul, Nat.reduceAdd, Nat.reduceSub, Nat.reducePow, Nat.reduceLT, true_implies, false_implies] at *
  all_goals omega
theorem first_eq (u k : Nat) (hu : u < 2 ^ 64) (hk : beh u = k) (h : k < 8) : bits .or .u8 ((256 - 2 ^ (8 - k) : Nat) : Int) ((u : Int) / 2 ^ (8 * k) % 256) = ((first u : Nat) : Int) := by
  have h1 := beh_lt u (by omega)
  have e : (u : Int) / 2 ^ (8 * k) % 256 = ((u / 256 ^ k % 256 : Nat) : Int) := by
    rw [show (256 : Nat) ^ k = 2 ^ (8 * k) from by rw [Nat.pow_mul]]
    simp
  rw [e]
  rw [hk] at h1
  have h2 : u / 256 ^ k < 2 ^ (7 - k) := by
    rw [Nat.div_lt_iff_lt_mul (Nat.pow_pos (by omega)), show (256 : Nat) = 2 ^ 8 from rfl, ← Nat.pow_mul, ← Nat.pow_add]
    rwa [show 7 - k + 8 * k = 7 * (k + 1) from by omega]
  have h3 : 2 ^ (7 - k) ≤ 2 ^ 7 := Nat.pow_le_pow_right (by omega) (by omega)
  rw [Nat.mod_eq_of_lt (by omega)]
  have := first_or ⟨k, h⟩ ⟨u / 256 ^ k, by omega⟩ h2
  rw [this, first, hk]
theorem tail_eq (u k : Nat) : (u : Int) / 2 ^ (8 * k) % 256 = (((UInt8.ofNat (u / 256 ^ k)).toNat : Nat) : Int) := by
  rw [show (256 : Nat) ^ k = 2 ^ (8 * k) from by rw [Nat.pow_mul]]
  simp
def encZg (n : Int) : By := enc (zig n)
def encText (s : ByteArray) : By := enc s.size ++ s.data.toList
def encBool (b : Bool) : By := [if b then 84 else 70]
theorem encText_len (s : ByteArray) : (encText s).length ≤ s.size + 9 := by
  have := enc_len_le s.size
  simp [encText]
  omega
end Go.Proofs.YtbkhademplgicaaGreatDoor

namespace Go.Proofs.YtbkhademplgicaaGreatDoor
open Go.RowKit
set_option linter.unusedVariables false
set_option linter.unusedSimpArgs false
theorem len64_any (x : Int) (w : World) (h0 : 0 ≤ x) (h1 : x ≤ 18446744073709551615) :
    Calls Tryz.prog 182 #[.int .u64 x] w fun e w' => e = .returned (.int .i64 (Lib.bitLen x.toNat)) ∧ w' = w := Any.bits_Len64 Tryz.len64 x w h0 h1
set_option maxRecDepth 100000 in
theorem behind_any (u : Nat) (hu : u < 2 ^ 64) (w : World) :
    Calls Tryz.prog 151 #[.int .u64 u] w fun e w' => e = .returned (.int .i64 (beh u)) ∧ w = w' := by
  have hb := beh_bitLen u hu
  have hl : Lib.bitLen u ≤ 64 := Lib.bitLen_le u 64 (by omega) hu
  obtain ⟨L, hL⟩ : ∃ L, Lib.bitLen u = L := ⟨_, rfl⟩
  rw [hL] at hb hl
  have HU := hid hu
  have HLL := hid hL
  have hmx := @run_max2 Tryz.prog
  have hmn := @run_min2 Tryz.prog
  clear hu hL
  go_enter Tryz.func151, Tryz.ntmps151
  go_wp2_with fail
  refine (len64_any _ _ (by omega) (by have := HU.out; omega)).mono ?_
  rintro e w1 ⟨rfl, rfl⟩
  rw [show ((u : Int)).toNat = u from rfl, HLL.out]
  go_wp2_with fail
  go_ret
  refine ⟨?_, rfl⟩
  rfl
set_option maxRecDepth 100000 in
theorem ones_any (k : Nat) (hk : k ≤ 8) (w : World) :
    Calls Tryz.prog 152 #[.int .i64 k] w fun e w' => e = .returned (.int .u8 ((256 - 2 ^ (8 - k) : Nat) : Int)) ∧ w = w' := by
  obtain rfl | rfl | rfl | rfl | rfl | rfl | rfl | rfl | rfl : k = 0 ∨ k = 1 ∨ k = 2 ∨ k = 3 ∨ k = 4 ∨ k = 5 ∨ k = 6 ∨ k = 7 ∨ k = 8 := by omega
  all_goals
    go_enter Tryz.func152, Tryz.ntmps152
    go_wp2_with fail
    go_ret
    exact ⟨rfl, rfl⟩
theorem wrap64u (n : Int) : IntKind.u64.wrap n = n % 18446744073709551616 := by rfl
theorem zig_bits (n : Int) (h1 : -9223372036854775808 ≤ n) (h2 : n ≤ 9223372036854775807) : bits BinOp.or IntKind.u64 (IntKind.u64.wrap (IntKind.u64.wrap n * 2)) (IntKind.u64.wrap n / 9223372036854775808) = (zig n : Nat) := by
  unfold zig
  by_cases h : 0 ≤ n
  · have e1 : IntKind.u64.wrap n = n := by rw [wrap64u]; omega
    have e2 : IntKind.u64.wrap (n * 2) = n * 2 := by rw [wrap64u]; omega
    have e3 : n / 9223372036854775808 = 0 := by omega
    rw [e1, e2, e3, if_pos h]
    have : bits BinOp.or IntKind.u64 (n * 2) 0 = n * 2 := by
      rw [u64_or _ _ (by omega) (by omega) (by omega) (by omega)]
      simp
      omega
    rw [this]
    omega
  · have e1 : IntKind.u64.wrap n = n + 18446744073709551616 := by rw [wrap64u]; omega
    have e2 : IntKind.u64.wrap ((n + 18446744073709551616) * 2) = 2 * n + 18446744073709551616 := by rw [wrap64u]; omega
    have e3 : (n + 18446744073709551616) / 9223372036854775808 = 1 := by omega
    rw [e1, e2, e3, if_neg h]
    have : bits BinOp.or IntKind.u64 (2 * n + 18446744073709551616) 1 = 2 * n + 18446744073709551617 := by
      rw [u64_or _ _ (by omega) (by omega) (by omega) (by omega)]
      have h1 := Nat.two_pow_add_eq_or_of_lt (b := 1) (i := 1) (by omega) (n + 9223372036854775808).toNat
      have h2 : (2 * n + 18446744073709551616).toNat = 2 ^ 1 * (n + 9223372036854775808).toNat := by omega
      rw [h2, show (1 : Int).toNat = 1 from rfl, ← h1]
      omega
    rw [this]
    omega
theorem zig_any (n : Int) (h1 : -9223372036854775808 ≤ n) (h2 : n ≤ 9223372036854775807) (w : World) :
    Calls Tryz.prog 76 #[.int .i64 n] w fun e w' => e = .returned (.int .u64 (zig n)) ∧ w = w' := by
  have hb1 : bits BinOp.and IntKind.u64 1 63 = 1 := by decide +kernel
  go_enter Tryz.func76, Tryz.ntmps76
  go_wp2
  go_ret
  have e := zig_bits n h1 h2
  exact ⟨congrArg (fun z => Ending.returned (.int .u64 z)) e, rfl⟩
set_option maxRecDepth 100000 in
theorem put0_any (base : Nat) (v : Value) (xs : By) (u : Nat) (hu : u < 2 ^ 64) (hn : xs.length ≤ 140737488300000) (w : World) (h : w.ownsRow base 5 1 v xs.length (u8s xs)) (hb : base ≤ w.heap.size) :
    Calls Tryz.prog 118 #[v, .int .u64 u] w fun e w' => (∃ v', e = .returned v' ∧ w'.ownsRow base 5 1 v' (xs ++ enc u).length (u8s (xs ++ enc u))) ∧ Kp (fun b => b < base) w w' := by
  obtain ⟨A, c, rfl⟩ := own_shape h
  obtain ⟨k, hk⟩ : ∃ k, beh u = k := ⟨_, rfl⟩
  have hk8 : k ≤ 8 := hk ▸ beh_le u
  have H := hid h
  have HU := hid hu
  have HN := hid hn
  have HK := hid hk
  have HB := hid hb
  clear h hu hn hk hb
  go_enter Tryz.func118, Tryz.ntmps118
  go_wp2_with fail
  refine (behind_any u HU.out _).mono ?_
  rintro e w1 ⟨rfl, rfl⟩
  rw [HK.out]
  go_wp2_with fail
  refine (ones_any k hk8 _).mono ?_
  rintro e w1 ⟨rfl, rfl⟩
  by_cases h8 : k < 8
  · have d8 : decide ((k : Int) < 8) = true := decide_eq_true (by omega)
    have HF := hid (first_eq u k HU.out HK.out h8)
    go_wp2_with (at_builtin; rw [HF.out]; go_loud (refine wpList_app el8 (H.out.alloc _) (sl_new1 _ _ _) (u8_one1 _ _) ?_ (Nat.le_trans HB.out (by simp)) rfl _ _ rfl rfl rfl ?_); (have := HN.out; omega); intro v' w2 hown2 hg2 hob2 hnil2; obtain ⟨A2, c2', rfl⟩ := own_shape hown2; have HOW := hid hown2; have HG2 := hid hg2; clear hown2 hg2 hob2 hnil2)
    have hsz2 : w.heap.size ≤ w2.heap.size := by have := HG2.out.size; simp at this; omega
    have hk2 : Kp (fun b => b < base) w w2 := ((Kp.refl _ w).alloc _).then (Kp.grown HG2.out) (fun i hi hS e => by
      have := (H.out.lt i e.symm).1
      omega)
    have hw2 : w2.ownsRow base 5 1 (.slice A2 (xs.length + 1) c2') (xs ++ [UInt8.ofNat (first u)]).length (u8s (xs ++ [UInt8.ofNat (first u)])) := by
      rw [u8s_append, List.length_append]
      have hf := first_lt u HU.out
      have e : u8s [UInt8.ofNat (first u)] = [.int .u8 (first u)] := by
        simp [u8s]; omega
      rw [e]
      exact HOW.out
    have HW2 := hid hw2
    have HK2 := hid hk2
    have henc : (xs ++ [UInt8.ofNat (first u)]) ++ tailb u k = xs ++ enc u := by rw [enc, HK.out]; simp
    have HE := hid henc
    clear hsz2 hk2 hw2 henc
    go_loopw [0, 5] (fun x i wr => ∃ (m : Nat) (cur : By), m ≤ k ∧ i = .int .i64 ((m : Int) - 1) ∧ Hid (cur ++ tailb u m = xs ++ enc u) ∧ Hid (wr.ownsRow base 5 1 x cur.length (u8s cur)) ∧ Hid (Kp (fun b => b < base) w wr)) (fun _ i _ => (intOf i + 1).toNat)
    case atStart => exact ⟨k, _, Nat.le_refl _, rfl, HE, HW2, HK2⟩
    case round =>
      obtain ⟨m, cur, hm, rfl, hcur, hown, hkp⟩ := hrel
      obtain ⟨A3, c3, rfl⟩ := own_shape hown.out
      match m, hm with
      | 0, _ =>
        have d0 : decide ((0 : Int) ≤ ((0 : Nat) : Int) - 1) = false := decide_eq_false (by omega)
        go_wp2_with fail
        have hc : cur = xs ++ enc u := by have := hcur.out; simpa [tailb] using this
        subst hc
        refine bodyPost_ret (v := .slice A3 (xs ++ enc u).length c3) (by simp [results, Tryz.results118, go_sem]) rfl ⟨⟨_, rfl, hown.out⟩, hkp.out⟩
      | m + 1, hm =>
        have d0 : decide ((0 : Int) ≤ ((m + 1 : Nat) : Int) - 1) = true := decide_eq_true (by omega)
        have hm7 : m ≤ 7 := by omega
        have em : (((m + 1 : Nat) : Int) - 1) = (m : Int) := by omega
        rw [em] at d0
        rw [em]
        have HT := hid (tail_eq u m)
        have hcl : cur.length ≤ xs.length + 9 := by
          have := congrArg List.length hcur.out
          have h9 := enc_len_le u
          simp only [List.length_append] at this
          omega
        have HCL := hid hcl
        clear hcl
        go_wp2_with (at_builtin; rw [HT.out]; go_loud (refine wpList_app el8 (hown.out.alloc _) (sl_new1 _ _ _) (u8_one1 _ _) ?_ (Nat.le_trans HB.out (by have := hkp.out.size; simp; omega)) rfl _ _ rfl rfl rfl ?_); (have := HN.out; have := HCL.out; omega); intro v' w4 hown4 hg4 hob4 hnil4; obtain ⟨A4, c4', rfl⟩ := own_shape hown4; have HOW4 := hid hown4; have HG4 := hid hg4; clear hown4 hg4 hob4 hnil4)
        refine ⟨⟨m, cur ++ [UInt8.ofNat (u / 256 ^ m)], by omega, by go_num, ?_, ?_, ?_⟩, by simp [intOf]⟩
        · have := hcur.out
          rw [tailb] at this
          exact hid (by rw [← this]; simp)
        · refine hid ?_
          rw [u8s_append, List.length_append]
          exact HOW4.out
        · exact hid ((hkp.out.alloc _).then (Kp.grown HG4.out) (fun i hi hS e => by
            have := (hown.out.lt i e.symm).1
            omega))
  · have d8 : decide ((k : Int) < 8) = false := decide_eq_false (by omega)
    have HF : Hid (((256 - 2 ^ (8 - k) : Nat) : Int) = ((first u : Nat) : Int)) := by
      refine hid ?_
      have hu := HU.out
      have : k = 8 := by omega
      subst this
      rw [first, HK.out]
      simp
      omega
    go_wp2_with (at_builtin; rw [HF.out]; go_loud (refine wpList_app el8 (H.out.alloc _) (sl_new1 _ _ _) (u8_one1 _ _) ?_ (Nat.le_trans HB.out (by simp)) rfl _ _ rfl rfl rfl ?_); (have := HN.out; omega); intro v' w2 hown2 hg2 hob2 hnil2; obtain ⟨A2, c2', rfl⟩ := own_shape hown2; have HOW := hid hown2; have HG2 := hid hg2; clear hown2 hg2 hob2 hnil2)
    have hsz2 : w.heap.size ≤ w2.heap.size := by have := HG2.out.size; simp at this; omega
    have hk2 : Kp (fun b => b < base) w w2 := ((Kp.refl _ w).alloc _).then (Kp.grown HG2.out) (fun i hi hS e => by
      have := (H.out.lt i e.symm).1
      omega)
    have hw2 : w2.ownsRow base 5 1 (.slice A2 (xs.length + 1) c2') (xs ++ [UInt8.ofNat (first u)]).length (u8s (xs ++ [UInt8.ofNat (first u)])) := by
      rw [u8s_append, List.length_append]
      have hf := first_lt u HU.out
      have e : u8s [UInt8.ofNat (first u)] = [.int .u8 (first u)] := by
        simp [u8s]; omega
      rw [e]
      exact HOW.out
    have HW2 := hid hw2
    have HK2 := hid hk2
    have henc : (xs ++ [UInt8.ofNat (first u)]) ++ tailb u k = xs ++ enc u := by rw [enc, HK.out]; simp
    have HE := hid henc
    clear hsz2 hk2 hw2 henc
    go_loopw [0, 5] (fun x i wr => ∃ (m : Nat) (cur : By), m ≤ k ∧ i = .int .i64 ((m : Int) - 1) ∧ Hid (cur ++ tailb u m = xs ++ enc u) ∧ Hid (wr.ownsRow base 5 1 x cur.length (u8s cur)) ∧ Hid (Kp (fun b => b < base) w wr)) (fun _ i _ => (intOf i + 1).toNat)
    case atStart => exact ⟨k, _, Nat.le_refl _, rfl, HE, HW2, HK2⟩
    case round =>
      obtain ⟨m, cur, hm, rfl, hcur, hown, hkp⟩ := hrel
      obtain ⟨A3, c3, rfl⟩ := own_shape hown.out
      match m, hm with
      | 0, _ =>
        have d0 : decide ((0 : Int) ≤ ((0 : Nat) : Int) - 1) = false := decide_eq_false (by omega)
        go_wp2_with fail
        have hc : cur = xs ++ enc u := by have := hcur.out; simpa [tailb] using this
        subst hc
        refine bodyPost_ret (v := .slice A3 (xs ++ enc u).length c3) (by simp [results, Tryz.results118, go_sem]) rfl ⟨⟨_, rfl, hown.out⟩, hkp.out⟩
      | m + 1, hm =>
        have d0 : decide ((0 : Int) ≤ ((m + 1 : Nat) : Int) - 1) = true := decide_eq_true (by omega)
        have hm7 : m ≤ 7 := by omega
        have em : (((m + 1 : Nat) : Int) - 1) = (m : Int) := by omega
        rw [em] at d0
        rw [em]
        have HT := hid (tail_eq u m)
        have hcl : cur.length ≤ xs.length + 9 := by
          have := congrArg List.length hcur.out
          have h9 := enc_len_le u
          simp only [List.length_append] at this
          omega
        have HCL := hid hcl
        clear hcl
        go_wp2_with (at_builtin; rw [HT.out]; go_loud (refine wpList_app el8 (hown.out.alloc _) (sl_new1 _ _ _) (u8_one1 _ _) ?_ (Nat.le_trans HB.out (by have := hkp.out.size; simp; omega)) rfl _ _ rfl rfl rfl ?_); (have := HN.out; have := HCL.out; omega); intro v' w4 hown4 hg4 hob4 hnil4; obtain ⟨A4, c4', rfl⟩ := own_shape hown4; have HOW4 := hid hown4; have HG4 := hid hg4; clear hown4 hg4 hob4 hnil4)
        refine ⟨⟨m, cur ++ [UInt8.ofNat (u / 256 ^ m)], by omega, by go_num, ?_, ?_, ?_⟩, by simp [intOf]⟩
        · have := hcur.out
          rw [tailb] at this
          exact hid (by rw [← this]; simp)
        · refine hid ?_
          rw [u8s_append, List.length_append]
          exact HOW4.out
        · exact hid ((hkp.out.alloc _).then (Kp.grown HG4.out) (fun i hi hS e => by
            have := (hown.out.lt i e.symm).1
            omega))
end Go.Proofs.YtbkhademplgicaaGreatDoor

namespace Go.Proofs.YtbkhademplgicaaGreatDoor
open Go.RowKit
set_option linter.unusedVariables false
set_option linter.unusedSimpArgs false
/-- v is a slice of these bytes. -/
def Rb (v : Value) (xs : By) (w : World) : Prop := ∃ A c, v = .slice A xs.length c ∧ Sl A xs.length c 1 (u8s xs) w
theorem own_rb {w : World} {base e : Nat} {v : Value} {xs : By} (h : w.ownsRow base e 1 v xs.length (u8s xs)) : Rb v xs w := by
  obtain ⟨A, c, rfl⟩ := own_shape h
  refine ⟨A, c, rfl, ?_⟩
  have := (own_sl h (Nat.le_refl _)).1
  rwa [List.take_of_length_le (by simp)] at this
theorem rb_nil (w : World) : Rb (.slice none 0 0) [] w := ⟨none, 0, rfl, rfl, Nat.le_refl _, fun h => absurd h (by simp)⟩
def OutB (w : World) (xs : By) (e : Ending) (w' : World) : Prop := (∃ v, e = .returned v ∧ w'.ownsRow w.heap.size 5 1 v xs.length (u8s xs)) ∧ Kp All w w'
theorem strCells_u8s (s : ByteArray) : Lib.strCells s = u8s s.data.toList := rfl
theorem max63 : (9223372036854775807 : Nat) ≤ maxLen := by decide
theorem kp_base {w w' : World} (h : Kp (fun b => b < w.heap.size) w w') : Kp All w w' := h.mono fun _ hk _ => hk
set_option maxRecDepth 100000 in
theorem put_any (v : Value) (xs : By) (u : Nat) (hu : u < 2 ^ 64) (hn : xs.length ≤ 140737488300000) (w : World) (h : Rb v xs w) :
    Calls Tryz.prog 75 #[v, .int .u64 u] w (OutB w (xs ++ enc u)) := by
  obtain ⟨A, c, rfl, h⟩ := h
  have H := hid h
  have HU := hid hu
  have HN := hid hn
  clear h hu hn
  go_enter Tryz.func75, Tryz.ntmps75
  go_wp2_with (at_builtin; go_loud (refine wpList_app el8 (World.ownsRow_nil w w.heap.size 5 1) H.out (u8s_one xs) ?_ (Nat.le_refl _) rfl _ _ rfl rfl rfl ?_); (have := HN.out; omega); intro v' w2 hown2 hg2 hob2 hnil2; obtain ⟨A2, c2', rfl⟩ := own_shape hown2; have HOW := hid hown2; have HG2 := hid hg2; clear hown2 hg2 hob2 hnil2)
  have hrow := HOW.out
  rw [List.nil_append, Nat.zero_add] at hrow
  have hk : Kp All w w2 := (Kp.refl _ w).then (Kp.grown HG2.out) (fun i hi _ e => by simp [Value.ownBlock] at e)
  refine (put0_any w.heap.size _ xs u HU.out HN.out w2 hrow hk.size).mono ?_
  rintro e w3 ⟨⟨v3, rfl, h3⟩, k3⟩
  obtain ⟨A3, c3, rfl⟩ := own_shape h3
  obtain ⟨n3, hn3⟩ : ∃ n3, (xs ++ enc u).length = n3 := ⟨_, rfl⟩
  rw [hn3] at h3
  rw [hn3]
  have H3 := hid h3
  have HN3 := hid hn3
  clear hn3
  have K3 := hid (hk.then k3 (fun i hi _ => hi))
  clear hrow hk h3 k3
  go_wp2_with fail
  go_ret
  exact ⟨⟨_, rfl, by rw [HN3.out]; exact H3.out⟩, K3.out⟩
set_option maxRecDepth 100000 in
theorem text0_any (base : Nat) (v : Value) (xs : By) (s : ByteArray) (hn : xs.length + s.size ≤ 140737488200000) (w : World) (h : w.ownsRow base 5 1 v xs.length (u8s xs)) (hb : base ≤ w.heap.size) :
    Calls Tryz.prog 192 #[v, .string s] w fun e w' => (∃ v', e = .returned v' ∧ w'.ownsRow base 5 1 v' (xs ++ encText s).length (u8s (xs ++ encText s))) ∧ Kp (fun b => b < base) w w' := by
  obtain ⟨A, c, rfl⟩ := own_shape h
  have H := hid h
  have HB := hid hb
  have hu : IntKind.u64.wrap (s.size : Int) = s.size := by rw [wrap64u]; omega
  have HN := hid hn
  clear h hn hb
  go_enter Tryz.func192, Tryz.ntmps192
  go_wp2_with fail
  refine (put0_any base _ xs s.size (by have := HN.out; omega) (by have := HN.out; omega) w H.out HB.out).mono ?_
  rintro e w3 ⟨⟨v3, rfl, h3⟩, k3⟩
  obtain ⟨A3, c3, rfl⟩ := own_shape h3
  have hl : (xs ++ enc s.size).length ≤ xs.length + 9 := by have := enc_len_le s.size; simp; omega
  obtain ⟨n3, hn3⟩ : ∃ n3, (xs ++ enc s.size).length = n3 := ⟨_, rfl⟩
  rw [hn3] at h3 hl
  rw [hn3]
  have H3 := hid h3
  have HN3 := hid hn3
  clear hn3
  have K3 := hid k3
  have HL := hid hl
  clear h3 k3 hl
  obtain ⟨i, hi, hz, hs, hby⟩ := info_parts el8.info
  go_wp2_with (at_builtin; go_loud (refine Lib.wpList_append_own_string _ rfl _ _ 25 9 rfl base 5 i Tryz.underlying25 Tryz.underlying9 hi hz hs hby _ _ _ rfl H3.out s rfl ?_ ?_ (Nat.le_trans HB.out K3.out.size) ?_); (have h1 := HN.out; have h2 := HL.out; have h3 := max63; omega); (have h1 := HN.out; have h2 := HL.out; omega); intro v' w4 hown4 hg4 hnil4; obtain ⟨A4, c4', rfl⟩ := own_shape hown4; have HOW4 := hid hown4; have HG4 := hid hg4; clear hown4 hg4 hnil4)
  go_ret
  refine ⟨⟨_, rfl, ?_⟩, K3.out.then (Kp.grown HG4.out) (fun i hi hS e => by have := (H3.out.lt i e.symm).1; omega)⟩
  have := HOW4.out
  rw [strCells_u8s, ← u8s_append, List.append_assoc] at this
  have e : (xs ++ encText s).length = (xs ++ enc s.size).length + s.size := by
    simp [encText]
    omega
  rw [e, HN3.out]
  exact this
set_option maxRecDepth 100000 in
theorem puttext_any (v : Value) (xs : By) (s : ByteArray) (hn : xs.length + s.size ≤ 140737488200000) (w : World) (h : Rb v xs w) :
    Calls Tryz.prog 148 #[v, .string s] w (OutB w (xs ++ encText s)) := by
  obtain ⟨A, c, rfl, h⟩ := h
  have H := hid h
  have HN := hid hn
  clear h hn
  go_enter Tryz.func148, Tryz.ntmps148
  go_wp2_with (at_builtin; go_loud (refine wpList_app el8 (World.ownsRow_nil w w.heap.size 5 1) H.out (u8s_one xs) ?_ (Nat.le_refl _) rfl _ _ rfl rfl rfl ?_); (have := HN.out; omega); intro v' w2 hown2 hg2 hob2 hnil2; obtain ⟨A2, c2', rfl⟩ := own_shape hown2; have HOW := hid hown2; have HG2 := hid hg2; clear hown2 hg2 hob2 hnil2)
  have hrow := HOW.out
  rw [List.nil_append, Nat.zero_add] at hrow
  have hk : Kp All w w2 := (Kp.refl _ w).then (Kp.grown HG2.out) (fun i hi _ e => by simp [Value.ownBlock] at e)
  refine (text0_any w.heap.size _ xs s HN.out w2 hrow hk.size).mono ?_
  rintro e w3 ⟨⟨v3, rfl, h3⟩, k3⟩
  obtain ⟨A3, c3, rfl⟩ := own_shape h3
  obtain ⟨n3, hn3⟩ : ∃ n3, (xs ++ encText s).length = n3 := ⟨_, rfl⟩
  rw [hn3] at h3
  rw [hn3]
  have H3 := hid h3
  have HN3 := hid hn3
  clear hn3
  have K3 := hid (hk.then k3 (fun i hi _ => hi))
  clear hrow hk h3 k3
  go_wp2_with fail
  go_ret
  exact ⟨⟨_, rfl, by rw [HN3.out]; exact H3.out⟩, K3.out⟩
end Go.Proofs.YtbkhademplgicaaGreatDoor

namespace Go.Proofs.YtbkhademplgicaaGreatDoor
open Go.RowKit
set_option linter.unusedVariables false
set_option linter.unusedSimpArgs false
theorem run_conv_row {w : World} {v : Value} {xs : By} (h : Rb v xs w) : (convert 25 9 v).run Tryz.prog w = .ok (.string ⟨xs.toArray⟩) w := by
  obtain ⟨A, c, rfl, h1, h2, h3⟩ := h
  cases xs with
  | nil =>
    cases A with
    | none => exact Lib.run_convert_nil_bytes w _ _ _ _ Tryz.underlying25 Tryz.underlying5 Tryz.underlying9
    | some a => exact run_convert_bytes_back w _ _ _ a c [] Tryz.underlying25 Tryz.underlying5 Tryz.underlying9 (fun j hj => absurd hj (by simp))
  | cons x xs =>
    obtain ⟨b, o, rfl, hr⟩ := h3 (by simp)
    refine run_convert_bytes_back w _ _ _ _ c (x :: xs) Tryz.underlying25 Tryz.underlying5 Tryz.underlying9 (fun j hj => ?_)
    rw [add_lit0]
    refine hr j _ ?_
    simp only [u8s, List.getElem?_map, List.getElem?_eq_getElem hj, Option.map_some]
def strOfB (b : By) : ByteArray := ⟨b.toArray⟩
end Go.Proofs.YtbkhademplgicaaGreatDoor

namespace Go.Proofs.YtbkhademplgicaaGreatDoor
open Go.RowKit
set_option linter.unusedVariables false
set_option linter.unusedSimpArgs false
/-! ### The checksum -/
def cstep (c : Nat) : Nat := (c / 2) ^^^ (if c % 2 = 1 then 2197175160 else 0)
def csteps : Nat → Nat → Nat
  | 0, c => c
  | n + 1, c => csteps n (cstep c)
def cbyte (c : Nat) (x : UInt8) : Nat := csteps 8 (c ^^^ x.toNat)
def cfold (c : Nat) (b : By) : Nat := b.foldl cbyte c
def crcB (b : By) : Nat := cfold 4294967295 b ^^^ 4294967295
theorem cstep_lt {c : Nat} (h : c < 2 ^ 32) : cstep c < 2 ^ 32 := by
  unfold cstep
  refine Nat.xor_lt_two_pow (by omega) ?_
  split <;> omega
theorem csteps_lt {n c : Nat} (h : c < 2 ^ 32) : csteps n c < 2 ^ 32 := by
  induction n generalizing c with
  | zero => exact h
  | succ n ih => exact ih (cstep_lt h)
theorem csteps_succ (n c : Nat) : csteps (n + 1) c = cstep (csteps n c) := by
  induction n generalizing c with
  | zero => rfl
  | succ n ih => rw [csteps, ih, csteps]
theorem cbyte_lt {c : Nat} {x : UInt8} (h : c < 2 ^ 32) : cbyte c x < 2 ^ 32 := csteps_lt (Nat.xor_lt_two_pow h (by have := x.toNat_lt; omega))
theorem cfold_lt {c : Nat} {b : By} (h : c < 2 ^ 32) : cfold c b < 2 ^ 32 := by
  induction b generalizing c with
  | nil => exact h
  | cons x b ih => exact ih (cbyte_lt h)
theorem crcB_lt (b : By) : crcB b < 2 ^ 32 := Nat.xor_lt_two_pow (cfold_lt (by omega)) (by omega)
theorem cfold_append (c : Nat) (a b : By) : cfold c (a ++ b) = cfold (cfold c a) b := by rw [cfold, cfold, cfold, List.foldl_append]
theorem cfold_take {c k : Nat} {b : By} {x : UInt8} (h : b[k]? = some x) : cfold c (b.take (k + 1)) = cbyte (cfold c (b.take k)) x := by
  rw [List.take_add_one, h, cfold_append]; rfl
theorem xor_half (a b : Nat) : (a ^^^ b) / 2 = (a / 2) ^^^ (b / 2) := by
  apply Nat.eq_of_testBit_eq
  intro i
  simp only [Nat.testBit_xor, Nat.testBit_div_two]
theorem xor_cancel {a b c : Nat} (h : a ^^^ c = b ^^^ c) : a = b := by
  have := congrArg (· ^^^ c) h
  simpa [Nat.xor_assoc] using this
theorem cstep_inj {a b : Nat} (ha : a < 2 ^ 32) (hb : b < 2 ^ 32) (h : cstep a = cstep b) : a = b := by
  have key : ∀ {c : Nat}, c < 2 ^ 32 → (cstep c).testBit 31 = decide (c % 2 = 1) := by
    intro c hc
    unfold cstep
    rw [Nat.testBit_xor]
    have h1 : (c / 2).testBit 31 = false := Nat.testBit_lt_two_pow (by omega)
    rw [h1, Bool.false_xor]
    split
    · next e => rw [decide_eq_true e]; decide
    · next e => rw [decide_eq_false e]; simp
  have hbit : decide (a % 2 = 1) = decide (b % 2 = 1) := by rw [← key ha, ← key hb, h]
  have hp : a % 2 = b % 2 := by
    have h1 := Nat.mod_two_eq_zero_or_one a
    have h2 := Nat.mod_two_eq_zero_or_one b
    rcases h1 with h1 | h1 <;> rcases h2 with h2 | h2 <;> simp_all
  have hh : a / 2 = b / 2 := by
    unfold cstep at h
    rw [hp] at h
    exact xor_cancel h
  omega
theorem csteps_inj {n a b : Nat} (ha : a < 2 ^ 32) (hb : b < 2 ^ 32) (h : csteps n a = csteps n b) : a = b := by
  induction n generalizing a b with
  | zero => exact h
  | succ n ih => exact cstep_inj ha hb (ih (cstep_lt ha) (cstep_lt hb) h)
theorem cbyte_inj {a b : Nat} {x : UInt8} (ha : a < 2 ^ 32) (hb : b < 2 ^ 32) (h : cbyte a x = cbyte b x) : a = b := by
  have hx := x.toNat_lt
  exact xor_cancel (csteps_inj (Nat.xor_lt_two_pow ha (by omega)) (Nat.xor_lt_two_pow hb (by omega)) h)
theorem cbyte_inj2 {c : Nat} {x y : UInt8} (hc : c < 2 ^ 32) (h : cbyte c x = cbyte c y) : x = y := by
  have hx := x.toNat_lt
  have hy := y.toNat_lt
  have h1 := csteps_inj (Nat.xor_lt_two_pow hc (by omega)) (Nat.xor_lt_two_pow hc (by omega)) h
  rw [Nat.xor_comm c, Nat.xor_comm c] at h1
  exact UInt8.toNat_inj.1 (xor_cancel h1)
theorem cfold_inj {a b : Nat} {s : By} (ha : a < 2 ^ 32) (hb : b < 2 ^ 32) (h : cfold a s = cfold b s) : a = b := by
  induction s generalizing a b with
  | nil => exact h
  | cons x s ih => exact cbyte_inj ha hb (ih (cbyte_lt ha) (cbyte_lt hb) h)
/-- One byte that is another one, and the checksum is another one. -/
theorem crcB_set {s : By} {k : Nat} {y : UInt8} (hk : k < s.length) (hy : y ≠ s[k]) : crcB (s.set k y) ≠ crcB s := by
  intro h
  have h1 : cfold 4294967295 (s.set k y) = cfold 4294967295 s := xor_cancel h
  have e1 : s.set k y = s.take k ++ (y :: s.drop (k + 1)) := by rw [List.set_eq_take_append_cons_drop, if_pos hk]
  have e2 : s = s.take k ++ (s[k] :: s.drop (k + 1)) := by rw [List.getElem_cons_drop, List.take_append_drop]
  rw [e1] at h1
  conv at h1 => rhs; rw [e2]
  rw [cfold_append, cfold_append] at h1
  have hp : cfold 4294967295 (s.take k) < 2 ^ 32 := cfold_lt (by omega)
  have h2 := cfold_inj (a := cbyte (cfold 4294967295 (s.take k)) y) (b := cbyte (cfold 4294967295 (s.take k)) s[k]) (cbyte_lt hp) (cbyte_lt hp) h1
  exact hy (cbyte_inj2 hp h2)
theorem cstep_bits (c : Nat) (h : c < 2 ^ 32) : bits .xor .u32 ((c : Int) / 2) (bits .and .u32 2197175160 (IntKind.u32.wrap (-bits .and .u32 (c : Int) 1))) = ((cstep c : Nat) : Int) := by
  have e1 : bits .and .u32 (c : Int) 1 = ((c % 2 : Nat) : Int) := by
    rw [show (1 : Int) = ((1 : Nat) : Int) from rfl, u32_and_nat c 1 (by omega) (by omega), Nat.and_one_is_mod]
  rw [e1, show (c : Int) / 2 = ((c / 2 : Nat) : Int) from by omega, cstep]
  have h2 := Nat.mod_two_eq_zero_or_one c
  rcases h2 with h2 | h2
  · rw [h2, if_neg (by omega)]
    have e2 : bits .and .u32 2197175160 (IntKind.u32.wrap (-((0 : Nat) : Int))) = ((0 : Nat) : Int) := by decide +kernel
    rw [e2, u32_xor_nat _ _ (by omega) (by omega)]
  · rw [h2, if_pos rfl]
    have e2 : bits .and .u32 2197175160 (IntKind.u32.wrap (-((1 : Nat) : Int))) = ((2197175160 : Nat) : Int) := by decide +kernel
    rw [e2, u32_xor_nat _ _ (by omega) (by omega)]
/-! ### The lowest byte first -/
def le : Nat → Nat → By
  | _, 0 => []
  | u, n + 1 => UInt8.ofNat u :: le (u / 256) n
theorem le_len (u n : Nat) : (le u n).length = n := by
  induction n generalizing u with
  | zero => rfl
  | succ n ih => rw [le, List.length_cons, ih]
def of : By → Nat
  | [] => 0
  | x :: b => x.toNat + 256 * of b
theorem of_lt (b : By) : of b < 256 ^ b.length := by
  induction b with
  | nil => simp [of]
  | cons x b ih =>
    have := x.toNat_lt
    rw [of, List.length_cons, Nat.pow_succ]
    omega
theorem of_le (u n : Nat) (h : u < 256 ^ n) : of (le u n) = u := by
  induction n generalizing u with
  | zero => simp at h; subst h; rfl
  | succ n ih =>
    rw [le, of, ih (u / 256) (by rw [Nat.pow_succ] at h; exact Nat.div_lt_of_lt_mul (by rw [Nat.mul_comm]; exact h)), UInt8.toNat_ofNat']
    omega
theorem le_of (b : By) : le (of b) b.length = b := by
  induction b with
  | nil => rfl
  | cons x b ih =>
    have hx := x.toNat_lt
    rw [List.length_cons, le, of]
    have e1 : (x.toNat + 256 * of b) / 256 = of b := by omega
    have e2 : UInt8.ofNat (x.toNat + 256 * of b) = x := by
      apply UInt8.toNat_inj.1
      rw [UInt8.toNat_ofNat']; omega
    rw [e1, e2, ih]
theorem of_inj {a b : By} (hl : a.length = b.length) (h : of a = of b) : a = b := by rw [← le_of a, ← le_of b, hl, h]
/-! ### Frames -/
def frHead (b : By) : By := 197 :: (le b.length 3 ++ b)
def frameB (b : By) : By := frHead b ++ le (crcB (frHead b)) 4
def frameX (b : By) : By := if b.length ≤ 1048576 then frameB b else []
theorem frHead_len (b : By) : (frHead b).length = b.length + 4 := by simp [frHead, le_len]; omega
theorem frameB_len (b : By) : (frameB b).length = b.length + 8 := by rw [frameB, List.length_append, frHead_len, le_len]
/-- What Unframe tells: content, bytes, error. -/
def unfP (b : By) : By × Nat × Int :=
  if b.length = 0 then ([], 0, 10) else if b.getD 0 0 ≠ 197 then ([], 0, 8) else if b.length < 4 then ([], 0, 10)
  else if 1048576 < of ((b.drop 1).take 3) then ([], 0, 6) else if b.length < of ((b.drop 1).take 3) + 8 then ([], 0, 10)
  else if crcB (b.take (of ((b.drop 1).take 3) + 4)) ≠ of ((b.drop (of ((b.drop 1).take 3) + 4)).take 4) then ([], 0, 8)
  else ((b.drop 4).take (of ((b.drop 1).take 3)), of ((b.drop 1).take 3) + 8, 0)
theorem unfP_frame {b : By} (hb : b.length ≤ 1048576) (r : By) : unfP (frameB b ++ r) = (b, b.length + 8, 0) := by
  have hl := frameB_len b
  have e0 : frameB b ++ r = 197 :: (le b.length 3 ++ (b ++ (le (crcB (frHead b)) 4 ++ r))) := by simp [frameB, frHead]
  have hn : of ((((frameB b ++ r)).drop 1).take 3) = b.length := by
    rw [e0, List.drop_succ_cons, List.drop_zero, List.take_left' (le_len _ _), of_le _ _ (by omega)]
  have ht : (frameB b ++ r).take (b.length + 4) = frHead b := by
    rw [frameB, List.append_assoc, List.take_left' (frHead_len b)]
  have hd : (frameB b ++ r).drop (b.length + 4) = le (crcB (frHead b)) 4 ++ r := by
    rw [frameB, List.append_assoc, List.drop_left' (frHead_len b)]
  have hlen : (frameB b ++ r).length = b.length + 8 + r.length := by rw [List.length_append, hl]
  unfold unfP
  rw [hn, ht, hd, hlen, List.take_left' (le_len _ _), of_le _ _ (by have := crcB_lt (frHead b); omega)]
  rw [if_neg (by omega), if_neg (by rw [e0]; simp), if_neg (by omega), if_neg (by omega), if_neg (by omega), if_neg (by simp)]
  have h4 : ((frameB b ++ r).drop 4).take b.length = b := by
    rw [e0, show (4 : Nat) = 3 + 1 from rfl, List.drop_succ_cons, List.drop_left' (le_len _ _), List.take_left]
  rw [h4]
/-- What Unframe takes is a frame. -/
theorem unfP_ok {b c : By} {n : Nat} (h : unfP b = (c, n, 0)) : c.length ≤ 1048576 ∧ n = c.length + 8 ∧ b = frameB c ++ b.drop n := by
  unfold unfP at h
  split at h
  · injection h with _ h; injection h with _ h; cases h
  next h0 =>
  split at h
  · injection h with _ h; injection h with _ h; cases h
  next h1 =>
  split at h
  · injection h with _ h; injection h with _ h; cases h
  next h2 =>
  split at h
  · injection h with _ h; injection h with _ h; cases h
  next h3 =>
  split at h
  · injection h with _ h; injection h with _ h; cases h
  next h4 =>
  split at h
  · injection h with _ h; injection h with _ h; cases h
  next h5 =>
  obtain ⟨m, hm⟩ : ∃ m, of ((b.drop 1).take 3) = m := ⟨_, rfl⟩
  rw [hm] at h h3 h4 h5
  injection h with hc hn
  injection hn with hn _
  have h1' : b.getD 0 0 = 197 := by simpa using h1
  have h5' : crcB (b.take (m + 4)) = of ((b.drop (m + 4)).take 4) := by simpa using h5
  have hcl : c.length = m := by rw [← hc, List.length_take, List.length_drop]; omega
  refine ⟨by omega, by omega, ?_⟩
  have hb1 : b = 197 :: b.drop 1 := by
    cases b with
    | nil => simp at h0
    | cons x b => simp at h1'; rw [h1']; rfl
  have hle : (b.drop 1).take 3 = le c.length 3 := by
    have := le_of ((b.drop 1).take 3)
    rw [hm, List.length_take, List.length_drop] at this
    rw [hcl, ← this]
    congr 1
    omega
  have hhead : b.take (m + 4) = frHead c := by
    rw [frHead, ← hle, ← hc]
    conv => lhs; rw [hb1]
    rw [List.take_succ_cons, show m + 3 = 3 + m from by omega, List.take_add, List.drop_drop]
  have hcrc : (b.drop (m + 4)).take 4 = le (crcB (frHead c)) 4 := by
    have := le_of ((b.drop (m + 4)).take 4)
    rw [← h5', hhead, List.length_take, List.length_drop] at this
    rw [← this]
    congr 1
    omega
  rw [frameB, ← hcrc, ← hhead, ← hn]
  rw [← List.take_add, List.take_append_drop]
end Go.Proofs.YtbkhademplgicaaGreatDoor

namespace Go.Proofs.YtbkhademplgicaaGreatDoor
open Go.RowKit
set_option linter.unusedVariables false
set_option linter.unusedSimpArgs false
theorem sl_u8 {A : Option Addr} {n c : Nat} {xs : By} {w : World} (h : Sl A n c 1 (u8s xs) w) {k : Nat} {x : UInt8} (hx : xs[k]? = some x) : ∃ b o, A = some ⟨b, o, none⟩ ∧ w.cell? ⟨b, o + k, none⟩ = some (.int .u8 x.toNat) := by
  have hl := h.1
  have hk := (List.getElem?_eq_some_iff.1 hx).1
  rw [u8s_len, Nat.mul_one] at hl
  obtain ⟨b, o, e, hr⟩ := h.2.2 (by omega)
  exact ⟨b, o, e, hr k _ (by simp only [u8s, List.getElem?_map, hx, Option.map_some])⟩
set_option maxRecDepth 100000 in
set_option maxHeartbeats 1000000 in
theorem sum_any (A : Option Addr) (n c : Nat) (xs : By) (hn : xs.length = n) (hl : n ≤ 9000000000000000000) (w : World) (h : Sl A n c 1 (u8s xs) w) :
    Calls Tryz.prog 77 #[.slice A n c] w fun e w' => e = .returned (.int .u32 (crcB xs)) ∧ w = w' := by
  have H := hid h; have HN := hid hn
  clear h hn
  go_enter Tryz.func77, Tryz.ntmps77
  go_wp2_with fail
  go_loop [3, 8] (fun s i => ∃ k C : Nat, k ≤ n ∧ i = .int .i64 k ∧ s = .int .u32 C ∧ C < 2 ^ 32 ∧ Hid (C = cfold 4294967295 (xs.take k))) (fun _ i => n - (intOf i).toNat)
  case atStart => exact ⟨0, 4294967295, Nat.zero_le _, rfl, rfl, by omega, by simp [cfold, Hid]⟩
  case round =>
    obtain ⟨k, C, hk, rfl, rfl, hC, hCk⟩ := hrel
    by_cases hlt : k < n
    · have hb0 : decide ((k : Int) < (n : Int)) = true := decide_eq_true (by omega)
      obtain ⟨x, hx⟩ : ∃ x, xs[k]? = some x := ⟨_, List.getElem?_eq_getElem (by rw [HN.out]; exact hlt)⟩
      obtain ⟨b, o, rfl, hc⟩ := sl_u8 H.out hx
      have hxl := x.toNat_lt
      have hxm : ((x.toNat : Nat) : Int) % 4294967296 = ((x.toNat : Nat) : Int) := by omega
      have hxo := u32_xor_nat C x.toNat hC (by omega)
      have hc1 := Nat.xor_lt_two_pow hC (show x.toNat < 2 ^ 32 by omega)
      obtain ⟨C1, hC1⟩ : ∃ C1, C ^^^ x.toNat = C1 := ⟨_, rfl⟩
      rw [hC1] at hxo hc1
      have i0 : (0 : Int) ≤ (k : Int) := by omega
      have i1 : (k : Int) < (n : Int) := by omega
      have HX := hid hx; have HC1 := hid hC1
      clear hx hC1 hxl
      go_wp2_with fail
      go_loop [3, 16] (fun s i => ∃ j d : Nat, j ≤ 8 ∧ i = .int .i64 j ∧ s = .int .u32 d ∧ d < 2 ^ 32 ∧ Hid (d = csteps j C1)) (fun _ i => 8 - (intOf i).toNat)
      case atStart => exact ⟨0, C1, Nat.zero_le _, rfl, rfl, hc1, by simp [csteps, Hid]⟩
      case round =>
        obtain ⟨j, d, hj, rfl, rfl, hd, hdj⟩ := hrel
        by_cases hlt8 : j < 8
        · have hb1 : decide ((j : Int) < 8) = true := decide_eq_true (by omega)
          have hst := cstep_bits d hd
          rw [IntKind.wrap_u32'] at hst
          have hst9 := cstep_lt hd
          obtain ⟨d1, hd1⟩ : ∃ d1, cstep d = d1 := ⟨_, rfl⟩
          rw [hd1] at hst hst9
          have HD1 := hid hd1
          clear hd1
          go_wp2_with fail

          exact ⟨⟨j + 1, d1, by omega, by go_num, rfl, hst9, by rw [csteps_succ, ← hdj.out]; exact hid HD1.out.symm⟩, by simp [intOf]; omega⟩
        · have hb1 : decide ((j : Int) < 8) = false := decide_eq_false (by omega)
          obtain rfl : j = 8 := by omega
          go_wp2_with fail
          refine ⟨⟨k + 1, d, by omega, by go_num, rfl, hd, ?_⟩, by simp [intOf]; omega⟩
          rw [cfold_take HX.out, ← hCk.out, cbyte, HC1.out]
          exact hdj
    · have hb0 : decide ((k : Int) < (n : Int)) = false := decide_eq_false (by omega)
      obtain rfl : k = n := by omega
      have hcm := hCk.out
      rw [List.take_of_length_le (by rw [HN.out]; exact Nat.le_refl _)] at hcm
      go_wp2_with fail
      go_ret
      refine ⟨?_, rfl⟩
      have hst := u32_xor_nat 4294967295 (cfold 4294967295 xs) (by omega) (cfold_lt (by omega))
      have e : (4294967295 ^^^ cfold 4294967295 xs) = crcB xs := by rw [crcB, Nat.xor_comm]
      rw [e] at hst
      exact congrArg (fun z => Ending.returned (Value.int .u32 z)) hst
theorem of_take {xs : By} {k : Nat} {x : UInt8} (h : xs[k]? = some x) : of (xs.take (k + 1)) = of (xs.take k) + x.toNat * 256 ^ k := by
  induction xs generalizing k with
  | nil => simp at h
  | cons y xs ih =>
    cases k with
    | zero => simp at h; subst h; simp [of]
    | succ k =>
      have := ih (k := k) (by simpa using h)
      rw [List.take_succ_cons, List.take_succ_cons, of, of, this, Nat.pow_succ, Nat.mul_add]
      have e : 256 * (x.toNat * 256 ^ k) = x.toNat * (256 ^ k * 256) := by rw [Nat.mul_comm (256 ^ k) 256, Nat.mul_left_comm]
      omega
theorem or_shift (u x k : Nat) (hu : u < 256 ^ k) (hx : x < 256) (hk : k < 4) : bits .or .u32 (u : Int) ((x : Int) * 2 ^ (8 * k) % 4294967296) = ((u + x * 256 ^ k : Nat) : Int) := by
  have e1 : (2 : Nat) ^ (8 * k) = 256 ^ k := by rw [Nat.pow_mul]
  have hb : x * 256 ^ k < 2 ^ 32 := by
    have h4 : k = 0 ∨ k = 1 ∨ k = 2 ∨ k = 3 := by omega
    rcases h4 with rfl | rfl | rfl | rfl <;> simp <;> omega
  have hu2 : u < 2 ^ 32 := by
    have h4 : k = 0 ∨ k = 1 ∨ k = 2 ∨ k = 3 := by omega
    rcases h4 with rfl | rfl | rfl | rfl <;> simp at hu <;> omega
  have e2 : ((x : Int) * 2 ^ (8 * k) % 4294967296) = ((x * 256 ^ k : Nat) : Int) := by
    have : ((x : Int) * 2 ^ (8 * k)) = ((x * 256 ^ k : Nat) : Int) := by rw [← e1]; simp
    rw [this]
    omega
  rw [e2, u32_or_nat _ _ hu2 hb]
  congr 1
  rw [← e1, Nat.or_comm, Nat.mul_comm, ← Nat.two_pow_add_eq_or_of_lt (by rw [e1]; exact hu)]
  omega
set_option maxRecDepth 100000 in
set_option maxHeartbeats 1000000 in
theorem whole_any (A : Option Addr) (n c : Nat) (xs : By) (hn : xs.length = n) (hl : n ≤ 4) (w : World) (h : Sl A n c 1 (u8s xs) w) :
    Calls Tryz.prog 83 #[.slice A n c] w fun e w' => e = .returned (.int .u32 (of xs)) ∧ w = w' := by
  have H := hid h; have HN := hid hn
  clear h hn
  go_enter Tryz.func83, Tryz.ntmps83
  go_wp2_with fail
  go_loop [3, 7] (fun s i => ∃ k C : Nat, k ≤ n ∧ i = .int .i64 k ∧ s = .int .u32 C ∧ C < 256 ^ k ∧ Hid (C = of (xs.take k))) (fun _ i => n - (intOf i).toNat)
  case atStart => exact ⟨0, 0, Nat.zero_le _, rfl, rfl, by omega, by simp [of, Hid]⟩
  case round =>
    obtain ⟨k, C, hk, rfl, rfl, hC, hCk⟩ := hrel
    by_cases hlt : k < n
    · have hb0 : decide ((k : Int) < (n : Int)) = true := decide_eq_true (by omega)
      obtain ⟨x, hx⟩ : ∃ x, xs[k]? = some x := ⟨_, List.getElem?_eq_getElem (by rw [HN.out]; exact hlt)⟩
      obtain ⟨b, o, rfl, hc⟩ := sl_u8 H.out hx
      have hxl := x.toNat_lt
      have hxm : ((x.toNat : Nat) : Int) % 4294967296 = ((x.toNat : Nat) : Int) := by omega
      have hor := or_shift C x.toNat k hC hxl (by omega)
      have h8 : IntKind.i64.wrap (8 * (k : Int)) = 8 * (k : Int) := IntWalk.i64_in _ (by omega)
      have i0 : (0 : Int) ≤ (k : Int) := by omega
      have i1 : (k : Int) < (n : Int) := by omega
      have HX := hid hx; have HOR := hid hor
      clear hx hxl hor
      go_wp2_with fail
      rw [HOR.out]
      have hC2 : C + x.toNat * 256 ^ k < 256 ^ (k + 1) := by
        have hxl := x.toNat_lt
        have := Nat.mul_le_mul_right (256 ^ k) (show x.toNat ≤ 255 by omega)
        rw [Nat.pow_succ]
        omega
      exact ⟨⟨k + 1, C + x.toNat * 256 ^ k, by omega, by go_num, rfl, hC2, by rw [of_take HX.out, ← hCk.out]; exact hid rfl⟩, by simp [intOf]; omega⟩
    · have hb0 : decide ((k : Int) < (n : Int)) = false := decide_eq_false (by omega)
      obtain rfl : k = n := by omega
      have hcm := hCk.out
      rw [List.take_of_length_le (by rw [HN.out]; exact Nat.le_refl _)] at hcm
      go_wp2_with fail
      go_ret
      exact ⟨rfl, rfl⟩
set_option maxRecDepth 100000 in
set_option maxHeartbeats 1000000 in
theorem little_any (base : Nat) (v : Value) (xs : By) (u m : Nat) (hu : u < 2 ^ 32) (hm : m ≤ 8) (hn : xs.length ≤ 140737488300000) (w : World) (h : w.ownsRow base 5 1 v xs.length (u8s xs)) (hb : base ≤ w.heap.size) :
    Calls Tryz.prog 120 #[v, .int .u32 u, .int .i64 m] w fun e w' => (∃ v', e = .returned v' ∧ w'.ownsRow base 5 1 v' (xs ++ le u m).length (u8s (xs ++ le u m))) ∧ Kp (fun b => b < base) w w' := by
  have HN := hid hn; have HB := hid hb
  have H := hid h
  clear h hn hb
  go_enter Tryz.func120, Tryz.ntmps120
  go_wp2_with fail
  go_loopw [0, 1, 8] (fun x y i wr => ∃ (k d : Nat) (cur : By), k ≤ m ∧ i = .int .i64 k ∧ y = .int .u32 d ∧ d < 2 ^ 32 ∧ cur.length ≤ xs.length + k ∧ Hid (cur ++ le d (m - k) = xs ++ le u m) ∧ Hid (wr.ownsRow base 5 1 x cur.length (u8s cur)) ∧ Hid (Kp (fun b => b < base) w wr)) (fun _ _ i _ => m - (intOf i).toNat)
  case atStart => exact ⟨0, u, xs, Nat.zero_le _, rfl, rfl, hu, Nat.le_refl _, hid rfl, H, Kp.refl _ _⟩
  case round =>
    obtain ⟨k, d, cur, hk, rfl, rfl, hd, hcl, hcur, hown, hkp⟩ := hrel
    obtain ⟨A3, c3, rfl⟩ := own_shape hown.out
    by_cases hlt : k < m
    · have hb0 : decide ((k : Int) < (m : Int)) = true := decide_eq_true (by omega)
      have hmod : ((d : Int) % 256) = (((UInt8.ofNat d).toNat : Nat) : Int) := by rw [UInt8.toNat_ofNat']; omega
      have HM := hid hmod
      clear hmod
      go_wp2_with (at_builtin; rw [HM.out]; go_loud (refine wpList_app el8 (hown.out.alloc _) (sl_new1 _ _ _) (u8_one1 _ _) ?_ (Nat.le_trans HB.out (by have := hkp.out.size; simp; omega)) rfl _ _ rfl rfl rfl ?_); (have := HN.out; omega); intro v' w4 hown4 hg4 hob4 hnil4; obtain ⟨A4, c4', rfl⟩ := own_shape hown4; have HOW4 := hid hown4; have HG4 := hid hg4; clear hown4 hg4 hob4 hnil4)
      have hml : m - k = (m - (k + 1)) + 1 := by omega
      refine ⟨⟨k + 1, d / 256, cur ++ [UInt8.ofNat d], by omega, by go_num, by go_num, by omega, by rw [List.length_append, List.length_singleton]; omega, ?_, ?_, ?_⟩, by simp [intOf]; omega⟩
      · have := hcur.out
        rw [hml, le] at this
        exact hid (by rw [← this]; simp)
      · refine hid ?_
        rw [u8s_append, List.length_append]
        exact HOW4.out
      · exact hid ((hkp.out.alloc _).then (Kp.grown HG4.out) (fun i hi hS e => by
          have := (hown.out.lt i e.symm).1
          omega))
    · have hb0 : decide ((k : Int) < (m : Int)) = false := decide_eq_false (by omega)
      obtain rfl : k = m := by omega
      go_wp2_with fail
      have hc : cur = xs ++ le u k := by have := hcur.out; rwa [Nat.sub_self, le, List.append_nil] at this
      subst hc
      refine bodyPost_ret (v := .slice A3 (xs ++ le u k).length c3) (by simp [results, Tryz.results120, go_sem]) rfl ⟨⟨_, rfl, hown.out⟩, hkp.out⟩
set_option maxRecDepth 100000 in
set_option maxHeartbeats 1000000 in
theorem frame_any (A : Option Addr) (n c : Nat) (xs : By) (hn : xs.length = n) (hl : n ≤ 1000000) (w : World) (h : Foot All (Sl A n c 1 (u8s xs)) w) :
    Calls Tryz.prog 78 #[.slice A n c] w (OutB w (frameB xs)) := by
  have H := hid h; have HN := hid hn
  have h0 : ((w.alloc (.cells #[.int .u8 197] 5))).ownsRow w.heap.size 5 1 (.slice (some ⟨w.heap.size, 0, none⟩) 1 1) [(197 : UInt8)].length (u8s [197]) := by
    refine ⟨rfl, .inr ⟨w.heap.size, 1, _, rfl, Nat.le_refl _, blk_new w _, Nat.le_refl _, by decide, by simp, by simp [u8s]⟩⟩
  have H0 := hid h0
  clear h hn h0
  have d1 : decide ((n : Int) > 1048576) = false := decide_eq_false (by omega)
  have hnm : ((n : Int) % 4294967296) = (n : Int) := by omega
  go_enter Tryz.func78, Tryz.ntmps78
  go_wp2_with fail
  refine (little_any w.heap.size _ [197] n 3 (by omega) (by omega) (by simp) _ H0.out (by simp)).mono ?_
  rintro e w1 ⟨⟨v1, rfl, ho1⟩, hk1⟩
  have e4 : ([(197 : UInt8)] ++ le n 3).length = 4 := by rw [List.length_append, le_len]; rfl
  rw [e4] at ho1
  obtain ⟨A1, c1, rfl⟩ := own_shape ho1
  have HO1 := hid ho1
  have HK1 := hid (kp_base (((Kp.al w (.cells #[.int .u8 197] 5)).mono (T := fun b => b < w.heap.size) (fun _ _ _ => trivial)).trans hk1))
  clear ho1 hk1 e4
  go_wp2_with (at_builtin; go_loud (refine wpList_app el8 HO1.out (H.out.step HK1.out).now (u8s_one xs) ?_ HK1.out.size rfl _ _ rfl rfl rfl ?_); omega; intro v' w2 hown2 hg2 hob2 hnil2; obtain ⟨A2, c2', rfl⟩ := own_shape hown2; have HOW := hid hown2; have HG2 := hid hg2; clear hown2 hg2 hob2 hnil2)
  have hl2 : (frHead xs).length = 4 + n := by rw [frHead_len, HN.out]; omega
  have how : w2.ownsRow w.heap.size 5 1 (.slice A2 (4 + n) c2') (4 + n) (u8s (frHead xs)) := by
    have h := HOW.out
    rw [← u8s_append] at h
    have : [(197 : UInt8)] ++ le n 3 ++ xs = frHead xs := by rw [frHead, HN.out]; rfl
    rwa [this] at h
  have hk2 : Kp All w w2 := HK1.out.then (Kp.grown HG2.out) (fun i hi _ e => by
    have := (HO1.out.lt i e.symm).1
    omega)
  have hs2 : Sl A2 (4 + n) c2' 1 (u8s (frHead xs)) w2 := by
    have := (own_sl how (Nat.le_refl _)).1
    rwa [List.take_of_length_le (by rw [u8s_len, hl2]; exact Nat.le_refl _)] at this
  have HL2 := hid hl2; have HO2 := hid how; have HK2 := hid hk2
  clear HOW
  refine (sum_any A2 (4 + n) c2' (frHead xs) hl2 (by omega) w2 hs2).mono ?_
  rintro e w3 ⟨rfl, rfl⟩
  have hcr := crcB_lt (frHead xs)
  have ho2' : w2.ownsRow w.heap.size 5 1 (.slice A2 (4 + n) c2') (frHead xs).length (u8s (frHead xs)) := by rw [hl2]; exact how
  have HO2' := hid ho2'
  clear how hk2 hs2 hl2 ho2'
  go_wp2_with fail
  refine (little_any w.heap.size _ (frHead xs) (crcB (frHead xs)) 4 hcr (by omega) (by rw [HL2.out]; omega) _ HO2'.out HK2.out.size).mono ?_
  rintro e w4 ⟨⟨v4, rfl, ho4⟩, hk4⟩
  obtain ⟨A4, c4, rfl⟩ := own_shape ho4
  have hk4' : Kp All w w4 := HK2.out.then hk4 (fun i hi _ => hi)
  obtain ⟨m4, hm4⟩ : ∃ m4, (frHead xs ++ le (crcB (frHead xs)) 4).length = m4 := ⟨_, rfl⟩
  rw [hm4] at ho4
  rw [hm4]
  have HO4 := hid ho4; have HK4 := hid hk4'; have HM4 := hid hm4
  clear ho4 hk4 hk4' hm4
  go_wp2_with fail
  go_ret
  exact ⟨⟨_, rfl, by rw [frameB, HM4.out]; exact HO4.out⟩, HK4.out⟩
end Go.Proofs.YtbkhademplgicaaGreatDoor

namespace Go.Proofs.YtbkhademplgicaaGreatDoor
open Go.RowKit
set_option linter.unusedVariables false
set_option linter.unusedSimpArgs false
theorem sl_sub {b o n c lo k : Nat} {xs : By} {w : World} (hn : xs.length = n) (h : Sl (some ⟨b, o, none⟩) n c 1 (u8s xs) w) (hk : lo + k ≤ n) : Sl (some ⟨b, o + lo, none⟩) k (c - lo) 1 (u8s ((xs.drop lo).take k)) w := by
  obtain ⟨h1, h2, h3⟩ := h
  refine ⟨by rw [u8s_len, List.length_take, List.length_drop]; omega, by omega, fun hp => ⟨b, o + lo, rfl, fun j u hj => ?_⟩⟩
  obtain ⟨b', o', e, hr⟩ := h3 (by omega)
  injection e with e; injection e with e1 e2; subst e1 e2
  have hjl : j < k := by
    have := (List.getElem?_eq_some_iff.1 hj).1
    rw [u8s_len, List.length_take] at this; omega
  have : (u8s xs)[lo + j]? = some u := by
    rw [u8s, List.getElem?_map, List.getElem?_take, if_pos hjl, List.getElem?_drop] at hj
    rw [u8s, List.getElem?_map]; exact hj
  rw [Nat.add_assoc]
  exact hr (lo + j) u this
def Unf (w : World) (xs : By) (e : Ending) (w' : World) : Prop := ∃ v, e = .returned (.tuple #[v, .int .i64 ((unfP xs).2.1 : Nat), .int .i64 (unfP xs).2.2]) ∧ w'.ownsRow w.heap.size 5 1 v (unfP xs).1.length (u8s (unfP xs).1) ∧ Kp All w w'
theorem Unf.none {w : World} {xs : By} {err : Int} (h : unfP xs = ([], 0, err)) : Unf w xs (.returned (.tuple #[.slice none 0 0, .int .i64 0, .int .i64 err])) w := by
  unfold Unf
  rw [h]
  exact ⟨_, rfl, World.ownsRow_nil _ _ _ _, Kp.refl _ _⟩
set_option maxRecDepth 100000 in
set_option maxHeartbeats 2000000 in
theorem unframe_any (A : Option Addr) (n c : Nat) (xs : By) (hn : xs.length = n) (hl : n ≤ 1000000000000) (w : World) (h : Foot All (Sl A n c 1 (u8s xs)) w) :
    Calls Tryz.prog 39 #[.slice A n c] w (Unf w xs) := by
  have H := hid h; have HN := hid hn
  clear h hn
  by_cases h0 : n = 0
  · have d0 : ((n : Int) == 0) = true := by simp [h0]
    go_enter Tryz.func39, Tryz.ntmps39
    go_wp2_with fail
    refine bodyPost_ret (v := .tuple #[.slice none 0 0, .int .i64 0, .int .i64 10]) (by simp [results, Tryz.results39, go_sem]) rfl (Unf.none ?_)
    rw [unfP, if_pos (by rw [HN.out]; exact h0)]
  have d0 : ((n : Int) == 0) = false := by simp [h0]
  obtain ⟨x0, hx0⟩ : ∃ x, xs[0]? = some x := ⟨_, List.getElem?_eq_getElem (by rw [HN.out]; omega)⟩
  obtain ⟨b, o, rfl, hc0⟩ := sl_u8 H.out.now hx0
  rw [Nat.add_zero] at hc0
  have HX0 := hid hx0
  have i0 : (0 : Int) < (n : Int) := by omega
  have hg0 : xs.getD 0 0 = x0 := by rw [List.getD_eq_getElem?_getD, hx0]; rfl
  have HG0 := hid hg0
  clear hx0 hg0
  by_cases h1 : x0 = 197
  case neg =>
    have d1 : (((x0.toNat : Nat) : Int) != 197) = true := by
      simp only [bne_iff_ne, ne_eq]
      intro e
      exact h1 (UInt8.toNat_inj.1 (by have : x0.toNat = 197 := by omega
                                      rw [this]; rfl))
    have H1 := hid h1
    clear h1
    go_enter Tryz.func39, Tryz.ntmps39
    go_wp2_with fail
    refine bodyPost_ret (v := .tuple #[.slice none 0 0, .int .i64 0, .int .i64 8]) (by simp [results, Tryz.results39, go_sem]) rfl (Unf.none ?_)
    rw [unfP, if_neg (by rw [HN.out]; exact h0), if_pos (by rw [HG0.out]; exact H1.out)]
  have d1 : (((x0.toNat : Nat) : Int) != 197) = false := by subst h1; rfl
  have H1 := hid h1
  clear h1
  by_cases h4 : n < 4
  · have d4 : decide ((n : Int) < 4) = true := decide_eq_true (by omega)
    go_enter Tryz.func39, Tryz.ntmps39
    go_wp2_with fail
    refine bodyPost_ret (v := .tuple #[.slice none 0 0, .int .i64 0, .int .i64 10]) (by simp [results, Tryz.results39, go_sem]) rfl (Unf.none ?_)
    rw [unfP, if_neg (by rw [HN.out]; exact h0), if_neg (by rw [HG0.out, H1.out]; simp), if_pos (by rw [HN.out]; exact h4)]
  have d4 : decide ((n : Int) < 4) = false := decide_eq_false (by omega)
  have hnc := H.out.now.2.1
  have j1 : (4 : Int) ≤ (c : Int) := by omega
  have hw3 := (sl_sub (lo := 1) (k := 3) HN.out H.out.now (by omega))
  obtain ⟨m, hm⟩ : ∃ m, of ((xs.drop 1).take 3) = m := ⟨_, rfl⟩
  have hm3 : m < 16777216 := by
    have := of_lt ((xs.drop 1).take 3)
    rw [hm] at this
    have hl3 : ((xs.drop 1).take 3).length = 3 := by rw [List.length_take, List.length_drop, HN.out]; omega
    rw [hl3] at this
    omega
  have HM := hid hm; have HW3 := hid hw3
  clear hm hw3
  go_enter Tryz.func39, Tryz.ntmps39
  go_wp2_with fail
  have hl3 : ((xs.drop 1).take 3).length = 3 := by rw [List.length_take, List.length_drop, HN.out]; omega
  refine (whole_any (some ⟨b, o + 1, none⟩) 3 (c - 1) ((xs.drop 1).take 3) hl3 (by omega) w HW3.out).mono ?_
  rintro e w1 ⟨rfl, rfl⟩
  rw [HM.out]
  clear hl3
  have hu0 : unfP xs = if 1048576 < m then ([], 0, 6) else if xs.length < m + 8 then ([], 0, 10) else if crcB (xs.take (m + 4)) ≠ of ((xs.drop (m + 4)).take 4) then ([], 0, 8) else ((xs.drop 4).take m, m + 8, 0) := by
    rw [unfP, if_neg (by rw [HN.out]; exact h0), if_neg (by rw [HG0.out, H1.out]; simp), if_neg (by rw [HN.out]; exact h4), HM.out]
  have HU := hid hu0
  clear hu0
  by_cases h5 : 1048576 < m
  · have d5 : decide (1048576 < (m : Int)) = true := decide_eq_true (by omega)
    go_wp2_with fail
    refine bodyPost_ret (v := .tuple #[.slice none 0 0, .int .i64 0, .int .i64 6]) (by simp [results, Tryz.results39, go_sem]) rfl (Unf.none ?_)
    rw [HU.out, if_pos h5]
  have d5 : decide (1048576 < (m : Int)) = false := decide_eq_false (by omega)
  by_cases h6 : n < m + 8
  · have d6 : decide ((n : Int) < (m : Int) + 8) = true := decide_eq_true (by omega)
    go_wp2_with fail
    refine bodyPost_ret (v := .tuple #[.slice none 0 0, .int .i64 0, .int .i64 10]) (by simp [results, Tryz.results39, go_sem]) rfl (Unf.none ?_)
    rw [HU.out, if_neg h5, if_pos (by rw [HN.out]; exact h6)]
  have d6 : decide ((n : Int) < (m : Int) + 8) = false := decide_eq_false (by omega)
  have hs0 : Sl (some ⟨b, o, none⟩) (m + 4) c 1 (u8s (xs.take (m + 4))) w := by
    have := sl_sub (lo := 0) (k := m + 4) HN.out H.out.now (by omega)
    simpa using this
  have hs4 := sl_sub (lo := m + 4) (k := 4) HN.out H.out.now (by omega)
  have hla : (xs.take (m + 4)).length = m + 4 := by rw [List.length_take, HN.out]; omega
  have hlb : ((xs.drop (m + 4)).take 4).length = 4 := by rw [List.length_take, List.length_drop, HN.out]; omega
  have HS0 := hid hs0; have HS4 := hid hs4; have HLA := hid hla; have HLB := hid hlb
  obtain ⟨cr, hcr⟩ : ∃ cr, crcB (xs.take (m + 4)) = cr := ⟨_, rfl⟩
  obtain ⟨ws, hws⟩ : ∃ ws, of ((xs.drop (m + 4)).take 4) = ws := ⟨_, rfl⟩
  have HCR := hid hcr; have HWS := hid hws
  have e1 : IntKind.i64.wrap ((m : Int) + 4 + 4) = (m : Int) + 4 + 4 := IntWalk.i64_in _ (by omega)
  have e2 : IntKind.i64.wrap ((m : Int) + 4) = (m : Int) + 4 := IntWalk.i64_in _ (by omega)
  have k1 : (0 : Int) ≤ (m : Int) + 4 := by omega
  have k2 : (m : Int) + 4 ≤ (c : Int) := by omega
  have k3 : (m : Int) + 4 ≤ (m : Int) + 4 + 4 := by omega
  have k4 : (m : Int) + 4 + 4 ≤ (c : Int) := by omega
  have k5 : ((m : Int) + 4).toNat = m + 4 := by omega
  have k6 : ((m : Int) + 4 + 4).toNat = m + 8 := by omega
  clear hs0 hs4 hla hlb hcr hws
  by_cases h7 : cr = ws
  case neg =>
    have d7 : (((cr : Nat) : Int) != ((ws : Nat) : Int)) = true := by
      simp only [bne_iff_ne, ne_eq]; omega
    have H7 := hid h7
    clear h7
    go_wp2_with fail
    go_quiet ((first | (go_at_call 77; refine (sum_any (some ⟨b, o, none⟩) (m + 4) c (xs.take (m + 4)) HLA.out (by omega) _ (by exact HS0.out)).mono ?_; rw [HCR.out]; rintro e w' ⟨rfl, rfl⟩; exact ⟨rfl, _, rfl⟩) | (go_at_call 83; refine (whole_any (some ⟨b, o + (m + 4), none⟩) 4 (c - (m + 4)) ((xs.drop (m + 4)).take 4) HLB.out (by omega) _ (by exact HS4.out)).mono ?_; rw [HWS.out]; rintro e w' ⟨rfl, rfl⟩; exact ⟨rfl, _, rfl⟩)))
    go_wp2_with fail
    refine bodyPost_ret (v := .tuple #[.slice none 0 0, .int .i64 0, .int .i64 8]) (by simp [results, Tryz.results39, go_sem]) rfl ⟨.slice none 0 0, ?_, ?_, (Kp.refl All w).drewN _⟩
    · rw [HU.out, if_neg h5, if_neg (by rw [HN.out]; exact h6), if_pos (by rw [HCR.out, HWS.out]; exact H7.out)]; rfl
    · rw [HU.out, if_neg h5, if_neg (by rw [HN.out]; exact h6), if_pos (by rw [HCR.out, HWS.out]; exact H7.out)]; exact World.ownsRow_nil _ _ _ _
  have d7 : (((cr : Nat) : Int) != ((ws : Nat) : Int)) = false := by rw [h7]; simp
  have HU9 := hid (show unfP xs = ((xs.drop 4).take m, m + 8, 0) by
    rw [HU.out, if_neg h5, if_neg (by rw [HN.out]; exact h6), if_neg (by rw [HCR.out, HWS.out]; simpa using h7)])
  have hsm := sl_sub (lo := 4) (k := m) HN.out H.out.now (by omega)
  have HSM := hid hsm
  have hml : ((xs.drop 4).take m).length = m := by rw [List.length_take, List.length_drop, HN.out]; omega
  have HML := hid hml
  clear h7 hsm hml
  go_wp2_with fail
  go_quiet ((first | (go_at_call 77; refine (sum_any (some ⟨b, o, none⟩) (m + 4) c (xs.take (m + 4)) HLA.out (by omega) _ (by exact HS0.out)).mono ?_; rw [HCR.out]; rintro e w' ⟨rfl, rfl⟩; exact ⟨rfl, _, rfl⟩) | (go_at_call 83; refine (whole_any (some ⟨b, o + (m + 4), none⟩) 4 (c - (m + 4)) ((xs.drop (m + 4)).take 4) HLB.out (by omega) _ (by exact HS4.out)).mono ?_; rw [HWS.out]; rintro e w' ⟨rfl, rfl⟩; exact ⟨rfl, _, rfl⟩)))
  go_wp2_with (at_builtin; go_loud (refine wpList_app el8 (World.ownsRow_nil _ w.heap.size 5 1) (by exact HSM.out) (u8s_one _) ?_ (Nat.le_refl _) rfl _ _ rfl rfl rfl ?_); omega; intro v' w2 hown2 hg2 hob2 hnil2; obtain ⟨A2, c2', rfl⟩ := own_shape hown2; have HOW := hid hown2; have HG2 := hid hg2; clear hown2 hg2 hob2 hnil2)
  have hrow := HOW.out
  rw [List.nil_append, Nat.zero_add] at hrow
  refine bodyPost_ret (v := .tuple #[.slice A2 m c2', .int .i64 ((m : Int) + 8), .int .i64 0]) (by simp [results, Tryz.results39, go_sem]) rfl ⟨.slice A2 m c2', ?_, ?_, ((Kp.refl All w).drewN _).then (Kp.grown HG2.out) (fun i hi _ e => by simp [Value.ownBlock] at e)⟩
  · rw [HU9.out]; rfl
  · rw [HU9.out]
    dsimp only
    rw [HML.out]
    exact hrow
end Go.Proofs.YtbkhademplgicaaGreatDoor
