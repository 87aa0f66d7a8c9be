/- The session table and the document's in one memory: what each act leaves of both. No condition. -/
import Derived.Test.YtkipijdbkkcioaaCR
import Derived.Test.YtkipijdbkkcioaaCF
import Derived.Test.YtkipijdbkkcioaaCL
namespace Go.Proofs.Ytkipijdbkkcioaa
open Go.RowKit
set_option linter.unusedVariables false
set_option linter.unusedSimpArgs false
theorem Tab.move {S S' U : Nat → Prop} {w w' : World} {p m : Nat} {T : List (Int × Int × RD)} (h : Tab S w p m T) (k : Kp U w w') (hp : U p) (hm : U m) (hs : ∀ b, b < w.heap.size → S b → U b ∧ S' b) : Tab S' w' p m T := by
  obtain ⟨X, h1, h2, h3⟩ := h.map
  refine ⟨k.heap h.cell hp, ⟨X, h1.kept k hm, h2, fun x hx => ⟨?_, (h3 x hx).2⟩⟩, h.ne⟩
  have hf := (h3 x hx).1
  intro u hu
  exact hf u ((k.mono fun b hb hS => (hs b hb hS).1).then hu fun b hb hS => (hs b hb hS).2)
/-- Both tables in one memory: the program's at p, its map at m; the document's at p2. All of it is younger than B; the document's replies are older. -/
structure LM (B p m p2 : Nat) (T : List (Int × Int × RD)) (L : List (Int × Raw)) (v : Value) (w : World) : Prop where
  tab : Tab (fun b => b ≠ m ∧ b ≠ p ∧ b ≠ p2 ∧ some b ≠ v.ownBlock) w p m T
  doc : DT B p2 L v w
  reps : ∀ x ∈ L, Foot (fun b => b < B) (Ps x.2.A x.2.c x.2.r.pairs) w
  bp : B ≤ p
  bm : B ≤ m
  b2 : B ≤ p2
  n2 : p ≠ p2
  nm2 : m ≠ p2
  nv : v.ownBlock ≠ some p
  nvm : v.ownBlock ≠ some m
theorem LM.row {B p m p2 : Nat} {T : List (Int × Int × RD)} {L : List (Int × Raw)} {v : Value} {w : World} (h : LM B p m p2 T L v w) {b : Nat} (hb : v.ownBlock = some b) : B ≤ b ∧ b < w.heap.size := h.doc.own.lt b hb
theorem LM.lt {B p m p2 : Nat} {T : List (Int × Int × RD)} {L : List (Int × Raw)} {v : Value} {w : World} (h : LM B p m p2 T L v w) : p < w.heap.size ∧ m < w.heap.size ∧ p2 < w.heap.size := ⟨blk_lt h.tab.cell, h.tab.map_lt, blk_lt h.doc.cell⟩
theorem LM.all {B p m p2 : Nat} {T : List (Int × Int × RD)} {L : List (Int × Raw)} {v : Value} {w w' : World} (h : LM B p m p2 T L v w) (k : Kp All w w') : LM B p m p2 T L v w' :=
  ⟨h.tab.all k, h.doc.all k, fun x hx => (h.reps x hx).step k.all, h.bp, h.bm, h.b2, h.n2, h.nm2, h.nv, h.nvm⟩
theorem LM.hS {p m p2 : Nat} {v : Value} : ¬ (fun b => b ≠ m ∧ b ≠ p ∧ b ≠ p2 ∧ some b ≠ v.ownBlock) m := fun h => h.1 rfl
theorem LM.new {B p m p2 : Nat} {T : List (Int × Int × RD)} {L : List (Int × Raw)} {v : Value} {w : World} (h : LM B p m p2 T L v w) : ∀ b, w.heap.size ≤ b → (fun b => b ≠ m ∧ b ≠ p ∧ b ≠ p2 ∧ some b ≠ v.ownBlock) b := fun b hb => by
  obtain ⟨h1, h2, h3⟩ := h.lt
  refine ⟨by omega, by omega, by omega, fun e => ?_⟩
  have := (h.row e.symm).2
  omega
theorem LM.prog {B p m p2 : Nat} {T T' : List (Int × Int × RD)} {L : List (Int × Raw)} {v : Value} {w w' : World} (h : LM B p m p2 T L v w) (ht : Tab (fun b => b ≠ m ∧ b ≠ p ∧ b ≠ p2 ∧ some b ≠ v.ownBlock) w' p m T') (k : Kp (fun b => b ≠ m) w w') : LM B p m p2 T' L v w' :=
  ⟨ht, h.doc.kept k (Ne.symm h.nm2) (fun b hb e => h.nvm (e ▸ hb)), fun x hx => (h.reps x hx).step (k.mono fun b _ hb e => by have h1 := h.bm; have h2 : b < B := hb; omega), h.bp, h.bm, h.b2, h.n2, h.nm2, h.nv, h.nvm⟩
theorem LM.turn {B p m p2 : Nat} {T : List (Int × Int × RD)} {L L' : List (Int × Raw)} {v v' : Value} {w w' : World} (h : LM B p m p2 T L v w) (hd : DT B p2 L' v' w') (k : Kp (fun b => b ≠ p2 ∧ some b ≠ v.ownBlock) w w') (hv : v' = v ∨ ∀ b, v'.ownBlock = some b → w.heap.size ≤ b)
    (hr : ∀ x ∈ L', x ∈ L ∨ Foot (fun b => b < B) (Ps x.2.A x.2.c x.2.r.pairs) w') : LM B p m p2 T L' v' w' := by
  obtain ⟨l1, l2, l3⟩ := h.lt
  have hold : ∀ b, b < w.heap.size → some b ≠ v.ownBlock → some b ≠ v'.ownBlock := by
    intro b hb hn e
    rcases hv with rfl | hv
    · exact hn e
    · have := hv b e.symm; omega
  have n1 : v'.ownBlock ≠ some p := fun e => hold p l1 (fun e => h.nv e.symm) e.symm
  have n2 : v'.ownBlock ≠ some m := fun e => hold m l2 (fun e => h.nvm e.symm) e.symm
  refine ⟨h.tab.move k ⟨h.n2, fun e => h.nv e.symm⟩ ⟨h.nm2, fun e => h.nvm e.symm⟩ (fun b hb hS => ⟨⟨hS.2.2.1, hS.2.2.2⟩, hS.1, hS.2.1, hS.2.2.1, hold b hb hS.2.2.2⟩), hd, fun x hx => ?_, h.bp, h.bm, h.b2, h.n2, h.nm2, n1, n2⟩
  rcases hr x hx with hx | hx
  · refine (h.reps x hx).step (k.mono fun b _ hb => ⟨fun e => ?_, fun e => ?_⟩)
    · have h1 := h.b2; have h2 : b < B := hb; omega
    · have h1 := (h.row e.symm).1; have h2 : b < B := hb; omega
  · exact hx
theorem mem_ropenL {L : List (Int × Raw)} {id : Int} {x : Int × Raw} (h : x ∈ ropenL L id) : x ∈ L ∨ x = (id, Raw.z) := by
  unfold ropenL at h
  split at h
  · obtain ⟨L1, L2, rfl, e, _⟩ := insAll_split id L
    rw [e] at h
    simp only [List.mem_append, List.mem_cons] at h ⊢
    rcases h with h | h | h
    · exact .inl (.inl h)
    · exact .inr h
    · exact .inl (.inr h)
  · exact .inl h
theorem mem_rdoneL {L : List (Int × Raw)} {id seq : Int} {y : Raw} {x : Int × Raw} (h : x ∈ rdoneL L id seq y) : x ∈ L ∨ x = (id, y) := by
  unfold rdoneL at h
  split at h
  · exact List.mem_or_eq_of_mem_set h
  · exact .inl h
theorem mem_rexpL {L : List (Int × Raw)} {id : Int} {x : Int × Raw} (h : x ∈ rexpL L id) : x ∈ L := by
  unfold rexpL at h
  split at h
  · exact h
  · exact List.mem_of_mem_eraseIdx h
theorem ps_z (S : Nat → Prop) (w : World) : Foot S (Ps Raw.z.A Raw.z.c Raw.z.r.pairs) w := ps_nil S w
theorem ropenL_len {L : List (Int × Raw)} {id : Int} (h : L.length ≤ 16) : (ropenL L id).length ≤ 16 := by
  unfold ropenL
  split
  · rename_i h0
    obtain ⟨L1, L2, rfl, e, _⟩ := insAll_split id L
    rw [e]
    unfold ropenErr at h0
    split at h0
    · cases h0
    · split at h0
      · cases h0
      · split at h0
        · cases h0
        · simp only [List.length_append, List.length_cons] at *; omega
  · exact h
theorem rdoneL_len {L : List (Int × Raw)} {id seq : Int} {y : Raw} : (rdoneL L id seq y).length = L.length := by
  unfold rdoneL
  split
  · rw [List.length_set]
  · rfl
theorem rexpL_len {L : List (Int × Raw)} {id : Int} : (rexpL L id).length ≤ L.length := by
  unfold rexpL
  split
  · exact Nat.le_refl _
  · exact List.length_eraseIdx_le ..
/-- All entries may be written. -/
def Oks (L : List (Int × Raw)) : Prop := ∀ x ∈ L, EnOk (enOf x)
theorem Al.okT {T : List (Int × Int × RD)} {L : List (Int × Raw)} (h : Al T L) (ho : Oks L) (hn : (T.map (·.1)).Nodup) : ∀ x ∈ T, EnOk x := by
  intro x hx
  obtain ⟨k, hk⟩ := List.mem_iff_getElem?.1 hx
  have h1 := aget_at (L := T) hn hk
  have hx1 : x.1 ∈ keysL L := (h.perm.mem_iff).1 (List.mem_map.2 ⟨x, hx, rfl⟩)
  obtain ⟨y, hy, e⟩ := List.mem_map.1 hx1
  obtain ⟨j, hj⟩ := List.mem_iff_getElem?.1 hy
  have h2 := aget_at (L := ML L) (by rw [ML_keys]; exact nd_of_asc h.asc) (k := j) (x := (y.1, y.2.seq, y.2.r)) (by rw [List.getElem?_map, hj]; rfl)
  rw [h.get, ← e, h2] at h1
  injection h1 with h1
  have : x = enOf y := by
    obtain ⟨a, b⟩ := x
    dsimp only at e h1
    rw [← e, ← h1]; rfl
  rw [this]; exact ho y hy
theorem Al.nd {T : List (Int × Int × RD)} {L : List (Int × Raw)} (h : Al T L) : (T.map (·.1)).Nodup := (h.perm.nodup_iff).2 (nd_of_asc h.asc)
/-- Where both stand behind some acts: alike, of old replies. -/
def St (w0 : World) (p m p2 : Nat) (w : World) : Prop := ∃ T L v, LM w0.heap.size p m p2 T L v w ∧ Al T L ∧ L.length ≤ 16 ∧ Oks L ∧ Kp All w0 w
theorem ints_eqn (A A' : Option Addr) (c c' n : Nat) (zs : List Int) (hz : zs.length = n) (w : World) (h : Foot All (Sl A n c 1 (zs.map (Value.int .i64))) w) (h' : Foot All (Sl A' n c' 1 (zs.map (Value.int .i64))) w) (hn : n ≤ 1000000) :
    Calls Try.prog 21 #[.slice A n c, .slice A' n c'] w fun e w' => e = .returned (.bool true) ∧ Kp All w w' := by
  subst hz
  exact ints_eq A A' c c' zs w h h' hn
theorem LM.askPs {B p m p2 : Nat} {T : List (Int × Int × RD)} {L : List (Int × Raw)} {v : Value} {w : World} (h : LM B p m p2 T L v w) (ho : Oks L) {id seq er : Int} {x : Raw} (e : askOf L id seq = (x, er)) : Foot All (Ps x.A x.c x.r.pairs) w ∧ small x.r := by
  have hz : Foot All (Ps Raw.z.A Raw.z.c Raw.z.r.pairs) w ∧ small Raw.z.r := ⟨ps_z _ _, by simp [small, Raw.z, RD.z]⟩
  unfold askOf at e
  split at e
  · injection e with e1 e2; rw [← e1]; exact hz
  · split at e
    · rename_i y hy
      have hym := List.mem_of_getElem? hy
      split at e
      · injection e with e1 e2; rw [← e1]; exact hz
      · split at e
        · injection e with e1 e2; rw [← e1]
          refine ⟨(h.reps _ hym).mono fun _ _ _ => trivial, ?_⟩
          have h1 : y.2.r.pairs.length ≤ 1000000000000 := (ho _ hym).2.2.2.2.1.n
          unfold small; omega
        · injection e with e1 e2; rw [← e1]; exact hz
    · injection e with e1 e2; rw [← e1]; exact hz
theorem own_foot {w : World} {base e n c sz : Nat} {A : Option Addr} {xs : List Value} (h : w.ownsRow base e sz (.slice A n c) n xs) : Foot All (Sl A n c sz xs) w := by
  obtain ⟨A', c', e1, hf⟩ := sl_own h
  injection e1 with e1 e2 e3
  subst e1 e3
  exact hf.mono fun _ _ _ => trivial
end Go.Proofs.Ytkipijdbkkcioaa
