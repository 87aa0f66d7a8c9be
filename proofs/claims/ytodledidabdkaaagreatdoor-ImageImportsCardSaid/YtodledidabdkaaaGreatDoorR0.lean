/- How the arguments of a law are read: readers of integers, bools, strings, structs and slices. No condition. -/
import Derived.Test.YtodledidabdkaaaGreatDoorRows
import Derived.Test.YtodledidabdkaaaGreatDoorM1
import Derived.ProofKit
import Derived.OpenShut
import Derived.ShutString
import Derived.ChangeOld
import Derived.SizedLaws
import Derived.Deep.Slices
import Derived.Deep.CondSized
namespace Go.Proofs.YtodledidabdkaaaGreatDoor
open Go.ChangeShapes Go.WideShapes Go.RowKit Go.Deep
set_option linter.unusedVariables false
set_option linter.unusedSectionVars false

/-! ### How an argument lies: read through its cells, element by element -/

/-- A reading of type t: 'rel w x cs': the cells cs read as x; 'fits': what the form's reach gives; 'bulk': what it counts. -/
structure Rdr (P : Program) (t : TypeId) (α : Type) where
  sz : Nat
  rel : World → α → List Value → Prop
  fits : α → Prop
  bulk : α → Nat
  cells : P.cellsOf t = sz
  len : ∀ {w x cs}, rel w x cs → cs.length = sz
  keep : ∀ w w' x cs, rel w x cs → Kp All w w' → rel w' x cs
  opn : ∀ {H : Type} {enc : TypeId × Value → H} {w : World} {spare : Nat → Bool} {fuel : Nat} {cs : List Value} {y : DataW H × List MemPlace}, DataW.trod enc P w 0 spare true fuel t cs = some y →
    ∃ x, rel w x cs ∧ ((y.1.weights P t).all (· ≤ reachBytes) = true → fits x) ∧ bulk x ≤ Rows.uptoBulk y.1

section
variable {P : Program}

noncomputable def Rdr.int {t : TypeId} {k : IntKind} (ht : P.underlying t = some (.int k)) (hc : P.cellsOf t = 1) : Rdr P t Int where
  sz := 1
  rel := fun _ n cs => cs = [.int k n] ∧ (Lit.int k n).wf = true
  fits := fun _ => True
  bulk := fun _ => 1
  cells := hc
  len := fun h => by rw [h.1]; rfl
  keep := fun _ _ _ _ h _ => h
  opn := fun h => by
    obtain ⟨n, rfl, hx, hw⟩ := DataW.trod_int ht h
    exact ⟨n, ⟨rfl, hw⟩, fun _ => trivial, by rw [hx]; simp [Rows.uptoBulk]⟩

noncomputable def Rdr.bool {t : TypeId} (ht : P.underlying t = some .bool) (hc : P.cellsOf t = 1) : Rdr P t Bool where
  sz := 1
  rel := fun _ n cs => cs = [.bool n]
  fits := fun _ => True
  bulk := fun _ => 1
  cells := hc
  len := fun h => by rw [h]; rfl
  keep := fun _ _ _ _ h _ => h
  opn := fun h => by
    obtain ⟨n, rfl, hx⟩ := DataW.trod_bool ht h
    exact ⟨n, rfl, fun _ => trivial, by rw [hx]; simp [Rows.uptoBulk]⟩

noncomputable def Rdr.string {t : TypeId} (ht : P.underlying t = some .string) (hc : P.cellsOf t = 1) : Rdr P t ByteArray where
  sz := 1
  rel := fun _ s cs => cs = [.string s] ∧ s.size ≤ maxLen
  fits := fun s => s.size ≤ reachBytes
  bulk := fun s => s.size + 1
  cells := hc
  len := fun h => by rw [h.1]; rfl
  keep := fun _ _ _ _ h _ => h
  opn := fun h => by
    obtain ⟨n, rfl, hx, hw⟩ := DataW.trod_string ht h
    refine ⟨n, ⟨rfl, hw⟩, fun hf => ?_, by rw [hx]; simp [Rows.uptoBulk]⟩
    rw [hx] at hf
    simpa [DataW.weights] using hf

/-- A slice as it lies: its address, its capacity, its elements. -/
structure SlV (α : Type) where
  A : Option Addr
  c : Nat
  xs : List α

def bulks {α : Type} (f : α → Nat) : List α → Nat
  | [] => 0
  | x :: l => f x + bulks f l

theorem weightsAll_mem {H : Type} {e : TypeId} : ∀ {l : List (DataW H)} {d : DataW H}, d ∈ l → (DataW.weightsAll P e l).all (· ≤ reachBytes) = true → (d.weights P e).all (· ≤ reachBytes) = true
  | x :: l, d, h, hw => by
    simp only [DataW.weightsAll, List.all_append, Bool.and_eq_true] at hw
    cases h with
    | head => exact hw.1
    | tail _ h => exact weightsAll_mem h hw.2

theorem bulks_le {α : Type} {H : Type} (f : α → Nat) : ∀ (xs : List α) (ds : List (DataW H)), xs.length = ds.length → (∀ (i : Nat) (x : α) (d : DataW H), xs[i]? = some x → ds[i]? = some d → f x ≤ Rows.uptoBulk d) → bulks f xs ≤ Rows.uptoBulkAll ds
  | [], [], _, _ => by simp [bulks, Rows.uptoBulkAll]
  | x :: xs, d :: ds, hl, h => by
    have h0 := h 0 x d rfl rfl
    have := bulks_le f xs ds (by simpa using hl) (fun i x d hx hd => h (i + 1) x d (by simpa using hx) (by simpa using hd))
    simp only [bulks, Rows.uptoBulkAll]
    omega

/-- The elements lie from b, o on. -/
def Elems {α : Type} (rel : World → α → List Value → Prop) (sz b o : Nat) (xs : List α) (w : World) : Prop :=
  ∀ k x, xs[k]? = some x → ∃ cs, rel w x cs ∧ ∀ j u, cs[j]? = some u → w.cell? ⟨b, o + k * sz + j, none⟩ = some u

def SlRel {α : Type} (rel : World → α → List Value → Prop) (sz : Nat) (w : World) (s : SlV α) (cs : List Value) : Prop :=
  cs = [.slice s.A s.xs.length s.c] ∧ s.xs.length ≤ s.c ∧ s.c ≤ maxLen ∧ (0 < s.xs.length → ∃ b o, s.A = some ⟨b, o, none⟩ ∧ Elems rel sz b o s.xs w)

theorem SlRel.keep {α : Type} {rel : World → α → List Value → Prop} (hk : ∀ w w' x cs, rel w x cs → Kp All w w' → rel w' x cs) {sz : Nat} {w w' : World} {s : SlV α} {cs : List Value} (h : SlRel rel sz w s cs) (k : Kp All w w') : SlRel rel sz w' s cs := by
  refine ⟨h.1, h.2.1, h.2.2.1, fun hn => ?_⟩
  obtain ⟨b, o, e, he⟩ := h.2.2.2 hn
  refine ⟨b, o, e, fun i x hx => ?_⟩
  obtain ⟨cs, h1, h2⟩ := he i x hx
  exact ⟨cs, hk _ _ _ _ h1 k, fun j u hj => k.cell (h2 j u hj) trivial⟩

theorem list_of_range {α : Type} (n : Nat) (R : Nat → α → Prop) (h : ∀ i, i < n → ∃ x, R i x) : ∃ xs : List α, xs.length = n ∧ ∀ i x, xs[i]? = some x → R i x := by
  induction n with
  | zero => exact ⟨[], rfl, by simp⟩
  | succ n ih =>
    obtain ⟨xs, hl, hx⟩ := ih fun i hi => h i (by omega)
    obtain ⟨y, hy⟩ := h n (by omega)
    refine ⟨xs ++ [y], by simp [hl], fun i x hi => ?_⟩
    rw [List.getElem?_append] at hi
    split at hi
    · exact hx i x hi
    · rename_i hlt
      have : i = n := by
        have := (List.getElem?_eq_some_iff.1 hi).1
        simp at this
        omega
      subst this
      simp [hl] at hi
      exact hi ▸ hy

noncomputable def Rdr.slice {t e : TypeId} {α : Type} (r : Rdr P e α) (ht : P.underlying t = some (.slice e)) (hc : P.cellsOf t = 1) (hsz : 0 < r.sz) : Rdr P t (SlV α) where
  sz := 1
  rel := SlRel r.rel r.sz
  fits := fun s => s.xs.length * P.bytesOf e ≤ reachBytes ∧ ∀ x ∈ s.xs, r.fits x
  bulk := fun s => bulks r.bulk s.xs + 1
  cells := hc
  len := fun h => by rw [h.1]; rfl
  keep := fun _ _ _ _ h k => SlRel.keep r.keep h k
  opn := fun {H enc w spare fuel cs y} h => by
    rcases open_slice ht h with ⟨rfl, rfl⟩ | ⟨a, len, cap, m, n, D, Pl, rfl, _, hl, hm, hmm, rfl, hi⟩
    · exact ⟨⟨none, 0, []⟩, ⟨rfl, Nat.le_refl _, by simp, fun h => absurd h (by simp)⟩, fun _ => ⟨by simp, by simp⟩, by simp [bulks, Rows.uptoBulk]⟩
    · have hlm : len ≤ m := by rw [hmm]; split <;> omega
      obtain ⟨xs, hxl, hx⟩ := list_of_range (α := α) len (fun i x => (∃ cs, r.rel w x cs ∧ ∀ j u, cs[j]? = some u → w.cell? ((a.add (i * r.sz)).add j) = some u) ∧ (((D i).weights P e).all (· ≤ reachBytes) = true → r.fits x) ∧ r.bulk x ≤ Rows.uptoBulk (D i)) (fun i hilt => by
        obtain ⟨cs', hcs, ht'⟩ := hi i (by omega)
        obtain ⟨x, h1, h2, h3⟩ := r.opn ht'
        obtain ⟨_, hcl, hat⟩ := World.cells?_some hcs
        rw [r.cells] at hcl hat
        refine ⟨x, ⟨cs', h1, fun j u hj => ?_⟩, h2, h3⟩
        have hjl : j < cs'.length := (List.getElem?_eq_some_iff.1 hj).1
        rw [hat j (by omega), hj])
      refine ⟨⟨some a, cap, xs⟩, ⟨by rw [hxl], by rw [hxl]; exact hl, hm, fun hn => ?_⟩, fun hw => ⟨?_, fun x hxm => ?_⟩, ?_⟩
      · have h0 : 0 < len := hxl ▸ hn
        have hspot : a.spot = none := by
          obtain ⟨x, hx0⟩ : ∃ x, xs[0]? = some x := ⟨_, List.getElem?_eq_getElem (by omega)⟩
          obtain ⟨⟨cs, h1, h2⟩, _⟩ := hx 0 x hx0
          have hcl := r.len h1
          obtain ⟨u, hu⟩ : ∃ u, cs[0]? = some u := ⟨_, List.getElem?_eq_getElem (by omega)⟩
          have := h2 0 u hu
          rw [Nat.zero_mul] at this
          simp only [Addr.add, if_true] at this
          unfold World.cell? at this
          cases hs : a.spot with
          | none => rfl
          | some s =>
            rw [hs] at this
            split at this <;> simp at this
        refine ⟨a.block, a.off, by cases a; simp at hspot; rw [hspot], fun k x hk => ?_⟩
        obtain ⟨⟨cs, h1, h2⟩, _⟩ := hx k x hk
        refine ⟨cs, h1, fun j u hj => ?_⟩
        have := h2 j u hj
        have ha : a = ⟨a.block, a.off, none⟩ := by cases a; simp at hspot; rw [hspot]
        rw [ha, add_lit0, add_lit0] at this
        exact this
      · simp only [DataW.weights, ht, List.all_cons, Bool.and_eq_true, decide_eq_true_eq] at hw
        refine Nat.le_trans (Nat.mul_le_mul_right _ ?_) hw.1
        simp [hxl]
      · obtain ⟨i, hilt, rfl⟩ := List.mem_iff_getElem.1 hxm
        simp only [DataW.weights, ht, List.all_cons, List.all_append, Bool.and_eq_true] at hw
        refine (hx i _ (List.getElem?_eq_getElem hilt)).2.1 (weightsAll_mem ?_ hw.2.1)
        exact List.mem_map.2 ⟨i, by simp at hilt ⊢; omega, rfl⟩
      · have := bulks_le r.bulk xs ((List.range len).map D) (by simp [hxl]) (fun i x d hix hd => by
          have hil : i < len := by have := (List.getElem?_eq_some_iff.1 hix).1; omega
          have : D i = d := by simpa [hil] using hd
          exact this ▸ (hx i x hix).2.2)
        simp only [Rows.uptoBulk]
        omega

/-! fields -/
structure FRdr (P : Program) (fs : List Field) (o : Nat) (α : Type) where
  sz : Nat
  rel : World → α → List Value → Prop
  fits : α → Prop
  bulk : α → Nat
  len : ∀ {w x cs}, rel w x cs → cs.length = sz
  keep : ∀ w w' x cs, rel w x cs → Kp All w w' → rel w' x cs
  opn : ∀ {H : Type} {enc : TypeId × Value → H} {w : World} {spare : Nat → Bool} {fuel : Nat} {cs : List Value} {ys : List (DataW H × List MemPlace)}, o + sz ≤ cs.length → ys.length = fs.length →
    (∀ (i : Nat) (f : Field), fs[i]? = some f → DataW.trod enc P w 0 spare true fuel f.type ((cs.drop f.offset).take (P.cellsOf f.type)) = ys[i]?) →
    ∃ x, rel w x ((cs.drop o).take sz) ∧ ((DataW.weightsEach P (fs.map (·.type)) (ys.map (·.1))).all (· ≤ reachBytes) = true → fits x) ∧ bulk x ≤ Rows.uptoBulkAll (ys.map (·.1))

noncomputable def FRdr.nil (o : Nat) : FRdr P [] o Unit where
  sz := 0
  rel := fun _ _ cs => cs = []
  fits := fun _ => True
  bulk := fun _ => 0
  len := fun h => by rw [h]; rfl
  keep := fun _ _ _ _ h _ => h
  opn := fun _ _ _ => ⟨(), by simp, fun _ => trivial, by simp⟩

noncomputable def FRdr.cons {f : Field} {fs : List Field} {o : Nat} {α β : Type} (r : Rdr P f.type α) (hf : f.offset = o) (s : FRdr P fs (o + r.sz) β) : FRdr P (f :: fs) o (α × β) where
  sz := r.sz + s.sz
  rel := fun w x cs => ∃ c1 c2, cs = c1 ++ c2 ∧ r.rel w x.1 c1 ∧ s.rel w x.2 c2
  fits := fun x => r.fits x.1 ∧ s.fits x.2
  bulk := fun x => r.bulk x.1 + s.bulk x.2
  len := fun ⟨c1, c2, h, h1, h2⟩ => by rw [h, List.length_append, r.len h1, s.len h2]
  keep := fun _ _ _ _ ⟨c1, c2, h, h1, h2⟩ k => ⟨c1, c2, h, r.keep _ _ _ _ h1 k, s.keep _ _ _ _ h2 k⟩
  opn := fun {H enc w spare fuel cs ys} hl hy h => by
    cases ys with
    | nil => simp at hy
    | cons y ys =>
      have h0 := h 0 f rfl
      simp only [List.getElem?_cons_zero, r.cells, hf] at h0
      obtain ⟨x, x1, x2, x3⟩ := r.opn h0
      obtain ⟨z, z1, z2, z3⟩ := s.opn (cs := cs) (ys := ys) (by omega) (by simpa using hy) (fun i g hg => by simpa using h (i + 1) g (by simpa using hg))
      refine ⟨(x, z), ⟨_, _, ?_, x1, z1⟩, fun hw => ?_, ?_⟩
      · rw [List.take_add, List.drop_drop]
      · simp only [List.map_cons, DataW.weightsEach, List.all_append, Bool.and_eq_true] at hw
        exact ⟨x2 hw.1, z2 hw.2⟩
      · simp only [List.map_cons, Rows.uptoBulkAll]
        omega

noncomputable def Rdr.struct {t : TypeId} {fs : Array Field} {α : Type} (s : FRdr P fs.toList 0 α) (ht : P.underlying t = some (.struct fs)) (hc : P.cellsOf t = s.sz) : Rdr P t α where
  sz := s.sz
  rel := s.rel
  fits := s.fits
  bulk := s.bulk
  cells := hc
  len := s.len
  keep := s.keep
  opn := fun {H enc w spare fuel cs y} h => by
    obtain ⟨xs, n, _, rfl, hl, hxl, hf⟩ := DataW.trod_struct ht h
    obtain ⟨x, x1, x2, x3⟩ := s.opn (cs := cs) (ys := xs) (by omega) (by simpa using hxl) (fun i f hi => hf i f (by simpa using hi))
    rw [List.drop_zero, List.take_of_length_le (by omega)] at x1
    refine ⟨x, x1, fun hw => x2 ?_, by simpa [Rows.uptoBulk] using Nat.le_succ_of_le x3⟩
    simpa [DataW.weights, ht] using hw
end
end Go.Proofs.YtodledidabdkaaaGreatDoor
