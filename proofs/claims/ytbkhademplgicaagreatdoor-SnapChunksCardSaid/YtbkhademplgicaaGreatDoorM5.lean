/- The disk: what a disk is in memory (Dk), its plain state (DS), and the small functions, walked once each. No condition on the disk but that it lies as Dk says. The disk: On, may, Start, New, Clone of bytes, Pending: walked once each. No condition on the disk but that it lies as Dk says. The disk: Pending, settle, Crash, begin: walked once each. No condition on the disk but that it lies as Dk says. Regions that draw their order and whose last operation waits for all others: the others in whatever order, then the last one. No program in sight. The disk: what one round of settle leaves. No program is walked here. The disk: settle, walked once. No condition on the disk but that it lies as Dk says. The disk: Crash and begin, walked once each. No condition on the disk but that it lies as Dk says. The disk: does, Append, Sync: walked once each. No condition on the disk but that it lies as Dk says. The disk: what one more write in the buffer leaves. No program is walked here. -/
import Derived.Test.YtbkhademplgicaaGreatDoorM1
import Derived.WalkKit
import Derived.Deep.RegionHeld3
import Derived.Deep.QuietTactic
import Derived.BigQuiet
import Derived.KernelRfl
import Derived.StillTailTactics
import Derived.Shelf.Abstract
set_option linter.unusedVariables false
set_option linter.unusedSimpArgs false
namespace Go.Proofs.YtbkhademplgicaaGreatDoor
open Go.RowKit
set_option linter.unusedVariables false
theorem strKey : KeyEnc Tryz.prog 9 .string (fun k : ByteArray => Value.string k) := ⟨Tryz.underlying9, fun _ => trivial, fun _ _ h => by injection h⟩
abbrev SMap := KMap (fun k : ByteArray => Value.string k)
theorem elw : El Tryz.prog 89 133 2 32 (.agg #[.pointer none, .slice none 0 0]) := ⟨Tryz.underlying89, by kernel_rfl, rfl, by decide, by decide⟩

abbrev Nm := ByteArray

/-! ### The plain state -/
def needs (n : Nat) : Nat := n / 64 + 1
def moreOf : List (Nm × By) → Nm → Nat
  | [], _ => 0
  | x :: l, n => (if x.1 = n then x.2.length else 0) + moreOf l n
def usedOf (F B : List (Nm × By)) : Nat := (F.map fun x => needs (x.2.length + moreOf B x.1)).sum
def pend (B : List (Nm × By)) : Nat := (B.map fun x => x.2.length).sum
structure DS where
  blocks : Int
  off : Bool
  ops : Int
  fails : Int
  keep : Int
  F : List (Nm × By)
  B : List (Nm × By)
def addTo (F : List (Nm × By)) (n : Nm) (b : By) : List (Nm × By) := F.map fun y => if y.1 = n then (y.1, y.2 ++ b) else y
def settleF : List (Nm × By) → List (Nm × By) → Nat → List (Nm × By)
  | F, [], _ => F
  | F, x :: r, n => settleF (addTo F x.1 (x.2.take n)) r (n - min x.2.length n)
def DS.settle (D : DS) (n : Nat) : DS := { D with F := settleF D.F D.B n, B := [] }
def DS.crash (D : DS) (keep : Int) : DS := { D.settle keep.toNat with off := true }
def DS.gone (D : DS) (n : Nm) : DS := { D with F := adel D.F n, B := adel D.B n }

theorem mem_moreOf_le {B : List (Nm × By)} {n : Nm} : moreOf B n ≤ pend B := by
  induction B with
  | nil => simp [moreOf, pend]
  | cons x l ih =>
    simp only [moreOf, pend, List.map_cons, List.sum_cons] at ih ⊢
    split <;> omega
theorem le_usedOf {F B : List (Nm × By)} {x : Nm × By} (h : x ∈ F) : needs (x.2.length + moreOf B x.1) ≤ usedOf F B := by
  induction F with
  | nil => cases h
  | cons y l ih =>
    simp only [usedOf, List.map_cons, List.sum_cons] at ih ⊢
    cases h with
    | head => omega
    | tail _ h => have := ih h; omega

/-! ### Where it lies -/
inductive Role where
  | none | disk | map | buf | file | sure (f : Nat) | data
  deriving DecidableEq
structure Fl (w : World) (ro : Nat → Role) (fp : Nm → Nat) (F rest : List (Nm × By)) : Prop where
  lie : ∀ x ∈ F, ∃ v, w.heap[fp x.1]? = some (.cells #[v, .int .i64 (moreOf rest x.1)] 129 (0, 0)) ∧ w.ownsRow 0 5 1 v x.2.length (u8s x.2) ∧ (∀ b, v.ownBlock = some b → ro b = .sure (fp x.1))
  role : ∀ x ∈ F, ro (fp x.1) = .file
  inj : ∀ x ∈ F, ∀ y ∈ F, fp x.1 = fp y.1 → x.1 = y.1
/-- the cells of the buffer -/
def wcs (fp : Nm → Nat) (BV : List (Nm × By × Value)) : List Value := BV.flatMap fun x => [.pointer (some ⟨fp x.1, 0, Option.none⟩), x.2.2]
/-- the blocks of the data in the buffer -/
def blks (BV : List (Nm × By × Value)) : List Nat := BV.filterMap fun x => x.2.2.ownBlock
structure Bf (w : World) (ro : Nat → Role) (fp : Nm → Nat) (B : List (Nm × By)) (bv : Value) (BV : List (Nm × By × Value)) : Prop where
  eq : B = BV.map fun x => (x.1, x.2.1)
  row : w.ownsRow 0 133 2 bv B.length (wcs fp BV)
  role : ∀ b, bv.ownBlock = some b → ro b = .buf
  data : ∀ x ∈ BV, w.ownsRow 0 5 1 x.2.2 x.2.1.length (u8s x.2.1) ∧ ∀ b, x.2.2.ownBlock = some b → ro b = .data
  one : (blks BV).Nodup
def dcs (D : DS) (u : Int) (m : Nat) (bv : Value) : Array Value := #[.int .i64 D.blocks, .int .i64 u, .map (some m), bv, .bool D.off, .int .i64 D.ops, .int .i64 D.fails, .int .i64 D.keep]
structure Dk0 (w : World) (p : Nat) (ro : Nat → Role) (D : DS) (m : Nat) (fp : Nm → Nat) (bv : Value) (BV : List (Nm × By × Value)) : Prop where
  cell : w.heap[p]? = some (.cells (dcs D (usedOf D.F D.B) m bv) 91 (0, 0))
  map : SMap w m (D.F.map fun x => (x.1, .pointer (some ⟨fp x.1, 0, Option.none⟩)))
  fl : Fl w ro fp D.F D.B
  bf : Bf w ro fp D.B bv BV
  rp : ro p = .disk
  rm : ro m = .map
  lt : ∀ b, ro b ≠ .none → b < w.heap.size
  names : ∀ x ∈ D.B, x.1 ∈ D.F.map (·.1)
  bl : D.blocks ≤ 16777216
  kw : D.keep ≤ 9223372036854775807
  us : (usedOf D.F D.B : Int) ≤ D.blocks
def Dk (w : World) (p : Nat) (ro : Nat → Role) (D : DS) : Prop := ∃ m fp bv BV, Dk0 w p ro D m fp bv BV
/-- D' lies behind a step from w; what was no block of the disk is none, and is kept. -/
def Nx (w : World) (ro : Nat → Role) (p : Nat) (D' : DS) (w' : World) : Prop :=
  ∃ ro', Dk w' p ro' D' ∧ (∀ b, b < w.heap.size → ro b = .none → ro' b = .none) ∧ Kp (fun b => ro b = .none) w w'


theorem Fl.kept {S : Nat → Prop} {w w' : World} {ro : Nat → Role} {fp : Nm → Nat} {F rest : List (Nm × By)} (h : Fl w ro fp F rest) (k : Kp S w w') (hs : ∀ b, (ro b = .file ∨ ∃ f, ro b = .sure f) → S b) : Fl w' ro fp F rest where
  lie := fun x hx => by
    obtain ⟨v, h1, h2, h3⟩ := h.lie x hx
    exact ⟨v, k.heap h1 (hs _ (.inl (h.role x hx))), own_kept h2 k (fun b hb => hs b (.inr ⟨_, h3 b hb⟩)), h3⟩
  role := h.role
  inj := h.inj
theorem Bf.kept {S : Nat → Prop} {w w' : World} {ro : Nat → Role} {fp : Nm → Nat} {B : List (Nm × By)} {bv : Value} {BV : List (Nm × By × Value)} (h : Bf w ro fp B bv BV) (k : Kp S w w') (hs : ∀ b, (ro b = .buf ∨ ro b = .data) → S b) : Bf w' ro fp B bv BV where
  eq := h.eq
  row := own_kept h.row k (fun b hb => hs b (.inl (h.role b hb)))
  role := h.role
  data := fun x hx => ⟨own_kept (h.data x hx).1 k (fun b hb => hs b (.inr ((h.data x hx).2 b hb))), (h.data x hx).2⟩
  one := h.one
theorem Dk0.kept {S : Nat → Prop} {w w' : World} {p : Nat} {ro : Nat → Role} {D : DS} {m : Nat} {fp : Nm → Nat} {bv : Value} {BV : List (Nm × By × Value)} (h : Dk0 w p ro D m fp bv BV) (k : Kp S w w') (hs : ∀ b, ro b ≠ .none → S b) : Dk0 w' p ro D m fp bv BV where
  cell := k.heap h.cell (hs _ (by rw [h.rp]; decide))
  map := h.map.kept k (hs _ (by rw [h.rm]; decide))
  fl := h.fl.kept k (fun b hb => hs b (by rcases hb with e | ⟨f, e⟩ <;> rw [e] <;> simp))
  bf := h.bf.kept k (fun b hb => hs b (by rcases hb with e | e <;> rw [e] <;> simp))
  rp := h.rp
  rm := h.rm
  lt := fun b hb => Nat.lt_of_lt_of_le (h.lt b hb) k.size
  names := h.names
  bl := h.bl
  kw := h.kw
  us := h.us
theorem Dk.kept {S : Nat → Prop} {w w' : World} {p : Nat} {ro : Nat → Role} {D : DS} (h : Dk w p ro D) (k : Kp S w w') (hs : ∀ b, ro b ≠ .none → S b) : Dk w' p ro D := by
  obtain ⟨m, fp, bv, BV, h⟩ := h
  exact ⟨m, fp, bv, BV, h.kept k hs⟩
theorem Dk.all {w w' : World} {p : Nat} {ro : Nat → Role} {D : DS} (h : Dk w p ro D) (k : Kp All w w') : Dk w' p ro D := h.kept k fun _ _ => trivial
theorem Dk.nx {w w' : World} {p : Nat} {ro : Nat → Role} {D : DS} (h : Dk w p ro D) (k : Kp All w w') : Nx w ro p D w' := ⟨ro, h.all k, fun _ _ h => h, k.all⟩
theorem Nx.pre {w w1 w' : World} {ro : Nat → Role} {p : Nat} {D' : DS} (k : Kp All w w1) (h : Nx w1 ro p D' w') : Nx w ro p D' w' := by
  obtain ⟨ro', h1, h2, h3⟩ := h
  exact ⟨ro', h1, fun b hb hn => h2 b (Nat.lt_of_lt_of_le hb k.size) hn, k.all.trans h3⟩

/-! ### Small functions -/
theorem needs_any (n : Nat) (hn : n ≤ 1099511627776) (w : World) : Calls Tryz.prog 101 #[.int .i64 n] w fun e w' => e = .returned (.int .i64 (needs n)) ∧ w = w' := by
  go_enter Tryz.func101, Tryz.ntmps101
  go_wp2
  refine bodyPost_ret (v := .int .i64 (n / 64 + 1)) (by simp [results, Tryz.results101, go_sem]) rfl ⟨?_, rfl⟩
  simp [needs]

theorem size_any (f : Nat) (A : Option Addr) (n c mo : Nat) (hn : n ≤ 1099511627776) (hmo : mo ≤ 1099511627776) (w : World) (h : w.heap[f]? = some (.cells #[.slice A n c, .int .i64 mo] 129 (0, 0))) :
    Calls Tryz.prog 102 #[.pointer (some ⟨f, 0, none⟩)] w fun e w' => e = .returned (.int .i64 (n + mo : Nat)) ∧ ∃ q, w' = w.drewN q := by
  have c1 := blk_cell h
  clear h
  go_enter Tryz.func102, Tryz.ntmps102
  go_wp2
  go_quiet (fail)
  go_wp2
  go_ret
  exact ⟨by simp, _, rfl⟩

set_option maxRecDepth 100000 in
theorem dmade_yes (p m : Nat) (D : DS) (u : Int) (bv : Value) (w : World) (h : w.heap[p]? = some (.cells (dcs D u m bv) 91 (0, 0))) :
    Calls Tryz.prog 66 #[.pointer (some ⟨p, 0, none⟩)] w fun e w' => e = .returned (.bool true) ∧ w = w' := by
  have hn := fun (w : World) (m : Option Nat) => run_neq_map_nil w 88 9 105 m Tryz.underlying88
  have c1 := blk_cell h
  unfold dcs at c1
  clear h
  go_enter Tryz.func66, Tryz.ntmps66
  go_wp2
  go_ret
  exact ⟨rfl, rfl⟩
end Go.Proofs.YtbkhademplgicaaGreatDoor

namespace Go.Proofs.YtbkhademplgicaaGreatDoor
open Go.RowKit
set_option linter.unusedVariables false
def mayErr (D : DS) : Int := if D.off then 9 else 0

set_option maxRecDepth 100000 in
theorem may_any (p m : Nat) (D : DS) (u : Int) (bv : Value) (w : World) (h : w.heap[p]? = some (.cells (dcs D u m bv) 91 (0, 0))) :
    Calls Tryz.prog 65 #[.pointer (some ⟨p, 0, none⟩)] w fun e w' => e = .returned (.int .i64 (mayErr D)) ∧ w = w' := by
  have H := hid h
  have c1 := blk_cell h
  unfold dcs at c1
  clear h
  obtain ⟨b, hb⟩ : ∃ b, D.off = b := ⟨_, rfl⟩
  have HB : Hid (mayErr D = if b then 9 else 0) := hid (by rw [mayErr, hb])
  rw [hb] at c1
  clear hb
  go_enter Tryz.func65, Tryz.ntmps65
  go_wp2_with fail
  refine (dmade_yes p m D u bv w H.out).mono ?_
  rintro e w1 ⟨rfl, rfl⟩
  cases b <;> (go_wp2_with fail; go_ret; exact ⟨by rw [HB.out]; rfl, rfl⟩)

set_option maxRecDepth 100000 in
theorem on_any (p m : Nat) (D : DS) (u : Int) (bv : Value) (w : World) (h : w.heap[p]? = some (.cells (dcs D u m bv) 91 (0, 0))) :
    Calls Tryz.prog 24 #[.pointer (some ⟨p, 0, none⟩)] w fun e w' => e = .returned (.bool (!D.off)) ∧ w = w' := by
  have H := hid h
  have c1 := blk_cell h
  unfold dcs at c1
  clear h
  obtain ⟨b, hb⟩ : ∃ b, D.off = b := ⟨_, rfl⟩
  rw [hb] at c1 ⊢
  clear hb
  go_enter Tryz.func24, Tryz.ntmps24
  go_wp2_with fail
  refine (dmade_yes p m D u bv w H.out).mono ?_
  rintro e w1 ⟨rfl, rfl⟩
  go_wp2_with fail
  go_ret
  exact ⟨rfl, rfl⟩

theorem Dk0.cellset {w w' : World} {p : Nat} {ro : Nat → Role} {D D' : DS} {m : Nat} {fp : Nm → Nat} {bv : Value} {BV : List (Nm × By × Value)} (h : Dk0 w p ro D m fp bv BV)
    (k : Kp (fun b => b ≠ p) w w') (hc : w'.heap[p]? = some (.cells (dcs D' (usedOf D.F D.B) m bv) 91 (0, 0))) (hF : D'.F = D.F) (hB : D'.B = D.B) (hb : D'.blocks = D.blocks) (hk : D'.keep ≤ 9223372036854775807) : Dk0 w' p ro D' m fp bv BV where
  cell := by rw [hF, hB]; exact hc
  map := by rw [hF]; exact h.map.kept k (fun e => by have := h.rm; rw [e, h.rp] at this; cases this)
  fl := by
    rw [hF, hB]
    exact h.fl.kept k (fun b hb e => by subst e; rw [h.rp] at hb; rcases hb with e | ⟨f, e⟩ <;> cases e)
  bf := by
    rw [hB]
    exact h.bf.kept k (fun b hb e => by subst e; rw [h.rp] at hb; rcases hb with e | e <;> cases e)
  rp := h.rp
  rm := h.rm
  lt := fun b hb => Nat.lt_of_lt_of_le (h.lt b hb) k.size
  names := by rw [hF, hB]; exact h.names
  bl := by rw [hb]; exact h.bl
  kw := hk
  us := by rw [hF, hB, hb]; exact h.us
theorem Nx.of {w w' : World} {p : Nat} {ro : Nat → Role} {D' : DS} {S : Nat → Prop} (h : Dk w' p ro D') (k : Kp S w w') (hs : ∀ b, ro b = .none → S b) : Nx w ro p D' w' := ⟨ro, h, fun _ _ h => h, k.mono fun b _ hb => hs b hb⟩

def DS.start (D : DS) : DS := { D with off := false, fails := 0 }
set_option maxRecDepth 100000 in
theorem start_any (p : Nat) (ro : Nat → Role) (D : DS) (w : World) (h : Dk w p ro D) :
    Calls Tryz.prog 26 #[.pointer (some ⟨p, 0, none⟩)] w fun e w' => e = .returned (.tuple #[]) ∧ Nx w ro p D.start w' := by
  obtain ⟨m, fp, bv, BV, h⟩ := h
  have H := hid h
  have c1 := blk_cell h.cell
  have b1 := hid h.cell
  have f1 := blk_free h.cell
  have hp : p < w.heap.size := blk_lt h.cell
  unfold dcs at c1
  clear h
  go_enter Tryz.func26, Tryz.ntmps26
  go_wp2_with fail
  refine (dmade_yes p m D _ bv w H.out.cell).mono ?_
  rintro e w1 ⟨rfl, rfl⟩
  go_wp2_with fail
  go_end0
  have b2 := blk_set (blk_set b1.out 4 (.bool false)) 6 (.int .i64 0)
  refine ⟨rfl, Nx.of ⟨m, fp, bv, BV, H.out.cellset (D' := D.start) (k := ?_) b2 rfl rfl rfl H.out.kw⟩ (S := fun b => b ≠ p) ?_ ?_⟩
  · exact ((Kp.refl _ _).setOut (by simp) _).setOut (by simp) _
  · exact ((Kp.refl _ _).setOut (by simp) _).setOut (by simp) _
  · intro b hb e
    rw [e, H.out.rp] at hb
    cases hb

theorem Nx_new {w : World} {p : Nat} : True := trivial

set_option maxRecDepth 100000 in
theorem clone8_any (A : Option Addr) (n c : Nat) (xs : List Value) (w : World) (h : Foot All (Sl A n c 1 xs) w) (hn : n ≤ 140737488355328) (h1 : ∀ u ∈ xs, u.oneCell' = true) :
    Calls Tryz.prog 103 #[.slice A n c] w fun e w' => (∃ v, e = .returned v ∧ w'.ownsRow w.heap.size 5 1 v n xs) ∧ Kp All w w' := by
  have H := hid h
  have H1 := hid h1
  clear h h1
  have hq := fun (w : World) (A : Option Addr) (n c : Nat) => Lib.run_eql_slice_nil (P := Tryz.prog) w 25 5 A n c 0 0 Tryz.underlying25
  have hbs := fun (w : World) => run_build0 (w := w) el8
  by_cases hA : A = none
  · subst hA
    have hn0 : n = 0 := by
      rcases Nat.eq_zero_or_pos n with h | h
      · exact h
      · obtain ⟨_, _, e, _⟩ := H.out.now.2.2 h; cases e
    subst hn0
    go_enter Tryz.func103, Tryz.ntmps103
    go_wp2
    go_ret
    have hx : xs = [] := List.eq_nil_of_length_eq_zero (by rw [H.out.now.1])
    subst hx
    exact ⟨⟨.slice none 0 0, rfl, World.ownsRow_nil _ _ _ _⟩, Kp.refl _ _⟩
  · obtain ⟨a, rfl⟩ := Option.ne_none_iff_exists'.1 hA
    go_enter Tryz.func103, Tryz.ntmps103
    go_wp2_with (at_builtin; refine wpList_app el8 (own_build0 (base := w.heap.size) (Nat.le_refl _)) ((H.out.step ((Kp.refl _ _).alloc _)).now) H1.out (by omega) (by simp) rfl _ _ rfl rfl rfl ?_; intro v' w1 hown' hg hob hnil)
    go_ret
    have hk : Kp All w w1 := ((Kp.refl All w).alloc (.cells #[] 5)).then (Kp.grown hg) (fun i hi _ => by simp [Value.ownBlock]; omega)
    rw [Nat.zero_add, List.nil_append] at hown'
    exact ⟨⟨v', rfl, hown'⟩, hk⟩

set_option maxRecDepth 100000 in
theorem dnew_any (n : Int) (h0 : 0 ≤ n) (h1 : n ≤ 16777216) (w : World) :
    Calls Tryz.prog 21 #[.int .i64 n] w fun e w' => (∃ p ro, e = .returned (.pointer (some ⟨p, 0, none⟩)) ∧ Dk w' p ro ⟨n, false, 0, 0, 0, [], []⟩ ∧ ∀ b, b < w.heap.size → ro b = .none) ∧ Kp All w w' := by
  have hmm := @run_makeMap Tryz.prog
  have d0 : decide (n < 0) = false := decide_eq_false (by omega)
  have d1 : decide (16777216 < n) = false := decide_eq_false (by omega)
  go_enter Tryz.func21, Tryz.ntmps21
  go_wp2_with fail
  go_ret
  refine ⟨⟨w.heap.size + 1, fun b => if b = w.heap.size + 1 then .disk else if b = w.heap.size then .map else .none, ?_, ⟨w.heap.size, fun _ => 0, .slice none 0 0, [], ?_⟩, fun b hb => ?_⟩, ?_⟩
  · simp
  · refine ⟨?_, ?_, ⟨by simp, by simp, by simp⟩, ⟨rfl, World.ownsRow_nil _ _ _ _, by simp [Value.ownBlock], by simp, by simp [blks]⟩, by simp, by simp, ?_, by simp, h1, by simp, by simpa [usedOf] using h0⟩
    · have := blk_new (w.alloc (.map #[] 0)) (.cells (dcs ⟨n, false, 0, 0, 0, [], []⟩ 0 w.heap.size (.slice none 0 0)) 91)
      rwa [World.size_alloc] at this
    · exact (KMap.new _ w).kept ((Kp.refl All _).alloc _) trivial
    · intro b hb
      simp only [World.size_alloc]
      split at hb
      · omega
      · split at hb
        · omega
        · exact absurd rfl hb
  · have h1 : b ≠ w.heap.size + 1 := by omega
    have h2 : b ≠ w.heap.size := by omega
    simp [h1, h2]
  · exact ((Kp.refl _ _).alloc _).alloc _
end Go.Proofs.YtbkhademplgicaaGreatDoor

namespace Go.Proofs.YtbkhademplgicaaGreatDoor
open Go.RowKit
set_option linter.unusedVariables false
def moreSum (F B : List (Nm × By)) : Nat := (F.map fun x => moreOf B x.1).sum
theorem moreSum_cons (F : List (Nm × By)) (x : Nm × By) (l : List (Nm × By)) : moreSum F l ≤ moreSum F (x :: l) ∧ (x.1 ∈ F.map (·.1) → moreSum F l + x.2.length ≤ moreSum F (x :: l)) := by
  induction F with
  | nil => simp [moreSum]
  | cons y r ih =>
    simp only [moreSum, List.map_cons, List.sum_cons, moreOf, List.mem_cons] at ih ⊢
    constructor
    · split <;> omega
    · rintro (e | e)
      · rw [if_pos e]; omega
      · have := ih.2 e
        split <;> omega
theorem pend_le_moreSum {F B : List (Nm × By)} (h : ∀ x ∈ B, x.1 ∈ F.map (·.1)) : pend B ≤ moreSum F B := by
  induction B with
  | nil => simp [pend]
  | cons x l ih =>
    have h1 := ih fun y hy => h y (List.mem_cons_of_mem _ hy)
    have h2 := (moreSum_cons F x l).2 (h x (List.mem_cons_self ..))
    simp only [pend, List.map_cons, List.sum_cons] at h1 ⊢
    omega
theorem moreSum_le_used (F B : List (Nm × By)) : moreSum F B ≤ 64 * usedOf F B := by
  induction F with
  | nil => simp [moreSum]
  | cons y r ih =>
    simp only [moreSum, usedOf, List.map_cons, List.sum_cons, needs] at ih ⊢
    omega
theorem Dk0.pend_le {w : World} {p : Nat} {ro : Nat → Role} {D : DS} {m : Nat} {fp : Nm → Nat} {bv : Value} {BV : List (Nm × By × Value)} (h : Dk0 w p ro D m fp bv BV) : pend D.B ≤ 1073741824 := by
  have h1 := pend_le_moreSum h.names
  have h2 := moreSum_le_used D.F D.B
  have h3 := h.bl
  have h4 := h.us
  omega
theorem Dk0.size_le {w : World} {p : Nat} {ro : Nat → Role} {D : DS} {m : Nat} {fp : Nm → Nat} {bv : Value} {BV : List (Nm × By × Value)} (h : Dk0 w p ro D m fp bv BV) {x : Nm × By} (hx : x ∈ D.F) : x.2.length + moreOf D.B x.1 ≤ 1073741824 := by
  have h1 := le_usedOf (B := D.B) hx
  have h3 := h.bl
  have h4 := h.us
  unfold needs at h1
  omega
theorem wcs_get (fp : Nm → Nat) : ∀ (BV : List (Nm × By × Value)) (k : Nat) (x : Nm × By × Value), BV[k]? = some x → (wcs fp BV)[k * 2]? = some (.pointer (some ⟨fp x.1, 0, none⟩)) ∧ (wcs fp BV)[k * 2 + 1]? = some x.2.2
  | [], k, x, h => by simp at h
  | y :: l, 0, x, h => by
    simp at h
    subst h
    simp [wcs]
  | y :: l, k + 1, x, h => by
    have := wcs_get fp l k x (by simpa using h)
    simp only [wcs, List.flatMap_cons] at this ⊢
    rw [show (k + 1) * 2 = k * 2 + 2 from by omega]
    exact this
theorem own_le {w : World} {base e sz n : Nat} {v : Value} {xs : List Value} (h : w.ownsRow base e sz v n xs) : n ≤ 9223372036854775807 := by
  rcases h.2 with ⟨rfl, rfl⟩ | ⟨g, cap, cur, rfl, hb, hg, hn, hc, hs, ht⟩
  · exact Nat.zero_le _
  · exact Nat.le_trans hn hc
/-- a write of the buffer, read through its cells -/
theorem Bf.at {w : World} {ro : Nat → Role} {fp : Nm → Nat} {B : List (Nm × By)} {bv : Value} {BV : List (Nm × By × Value)} (h : Bf w ro fp B bv BV) {k : Nat} {x : Nm × By} (hk : B[k]? = some x) :
    ∃ g cap A c, bv = .slice (some ⟨g, 0, none⟩) B.length cap ∧ BV[k]? = some (x.1, x.2, .slice A x.2.length c) ∧ w.cell? ⟨g, k * 2, none⟩ = some (.pointer (some ⟨fp x.1, 0, none⟩)) ∧ w.cell? ⟨g, k * 2 + 1, none⟩ = some (.slice A x.2.length c) ∧ w.ownsRow 0 5 1 (.slice A x.2.length c) x.2.length (u8s x.2) ∧ (∀ b, (Value.slice A x.2.length c).ownBlock = some b → ro b = .data) ∧ ro g = .buf := by
  have hk' := hk
  rw [h.eq, List.getElem?_map] at hk'
  cases hy : BV[k]? with
  | none => rw [hy] at hk'; cases hk'
  | some y =>
    rw [hy] at hk'
    simp at hk'
    subst hk'
    obtain ⟨d1, d2⟩ := h.data y (List.mem_of_getElem? hy)
    obtain ⟨A, c, e⟩ := own_shape d1
    rcases own_at h.row with ⟨e1, e2, e3⟩ | ⟨g, cap, cur, e1, _, _, e2⟩
    · have := (List.getElem?_eq_some_iff.1 hk).1
      omega
    · obtain ⟨c1, c2⟩ := wcs_get fp BV k y hy
      refine ⟨g, cap, A, c, e1, ?_, e2 _ _ c1, ?_, ?_, ?_, h.role g (by rw [e1]; rfl)⟩
      · rw [← e]
      · rw [e2 _ _ c2, e]
      · rw [← e]; exact d1
      · rw [← e]; exact d2
theorem pend_take {B : List (Nm × By)} {k : Nat} {x : Nm × By} (h : B[k]? = some x) : pend (B.take (k + 1)) = pend (B.take k) + x.2.length := by
  rw [List.take_add_one, h]
  simp [pend]
theorem pend_take_le (B : List (Nm × By)) (k : Nat) : pend (B.take k) ≤ pend B := by
  have h := congrArg pend (List.take_append_drop k B)
  simp only [pend, List.map_append, List.sum_append] at h ⊢
  omega

set_option maxRecDepth 100000 in
theorem pend_any (p : Nat) (ro : Nat → Role) (D : DS) (w : World) (h : Dk w p ro D) :
    Calls Tryz.prog 105 #[.pointer (some ⟨p, 0, none⟩)] w fun e w' => e = .returned (.int .i64 (if D.off then 0 else pend D.B : Nat)) ∧ Kp All w w' := by
  obtain ⟨m, fp, bv, BV, h⟩ := h
  have H := hid h
  have c1 := blk_cell h.cell
  obtain ⟨bo, hbo⟩ : ∃ b, D.off = b := ⟨_, rfl⟩
  obtain ⟨n, hn⟩ : ∃ n, D.B.length = n := ⟨_, rfl⟩
  obtain ⟨A, c, hbv⟩ := own_shape h.bf.row
  rw [hn] at hbv
  have hnm := own_le h.bf.row
  rw [hn] at hnm
  have HL := hid hn
  have HB := hid hbo
  have hpl := h.pend_le
  unfold dcs at c1
  rw [hbo] at c1 ⊢
  subst hbv
  clear h hbo hn
  cases bo
  · go_enter Tryz.func105, Tryz.ntmps105
    go_wp2_with fail
    refine (on_any p m D _ _ w H.out.cell).mono ?_
    rintro e w1 ⟨rfl, rfl⟩
    rw [HB.out]
    go_wp2_with fail
    go_loopw [3, 13] (fun x i wr => ∃ k : Nat, k ≤ n ∧ i = .int .i64 k ∧ x = .int .i64 (pend (D.B.take k)) ∧ Hid (Kp All w wr)) (fun _ i _ => n - (intOf i).toNat)
    case atStart => exact ⟨0, Nat.zero_le _, rfl, rfl, Kp.refl _ _⟩
    case round =>
      obtain ⟨k, hk, rfl, rfl, hkp⟩ := hrel
      have hpk := pend_take_le D.B k
      by_cases hlt : k < n
      · have hb0 : decide ((k : Int) < (n : Int)) = true := decide_eq_true (by omega)
        obtain ⟨x, hx⟩ : ∃ x, D.B[k]? = some x := ⟨_, List.getElem?_eq_getElem (by rw [HL.out]; exact hlt)⟩
        have hps := pend_take hx
        have hpk1 := pend_take_le D.B (k + 1)
        obtain ⟨g, cap, A', c', e1, _, p1, p2, _⟩ := (H.out.kept hkp.out (fun _ _ => trivial)).bf.at hx
        rw [HL.out] at e1
        injection e1 with eA _ ec
        subst eA ec
        have i0 : (0 : Int) ≤ (k : Int) := by omega
        have i1 : (k : Int) < (n : Int) := by omega
        obtain ⟨q, hq⟩ : ∃ q, pend (D.B.take k) = q := ⟨_, rfl⟩
        obtain ⟨l, hl⟩ : ∃ l, x.2.length = l := ⟨_, rfl⟩
        rw [hq] at hps hpk ⊢
        rw [hl] at hps p2
        have HP := hid hps
        rw [hps] at hpk1
        clear hps hx hl hq
        go_wp2_with fail
        exact ⟨⟨k + 1, by omega, by go_num, by rw [HP.out]; go_num, hkp.out.alloc _⟩, by simp [intOf]; omega⟩
      · have hb0 : decide ((k : Int) < (n : Int)) = false := decide_eq_false (by omega)
        go_wp2_with fail
        go_ret
        have : k = n := by omega
        subst this
        rw [List.take_of_length_le (by rw [HL.out]; exact Nat.le_refl _)]
        exact ⟨rfl, hkp.out⟩
  · go_enter Tryz.func105, Tryz.ntmps105
    go_wp2_with fail
    refine (on_any p m D _ _ w H.out.cell).mono ?_
    rintro e w1 ⟨rfl, rfl⟩
    rw [HB.out]
    go_wp2_with fail
    go_ret
    exact ⟨by simp, Kp.refl _ _⟩
end Go.Proofs.YtbkhademplgicaaGreatDoor

namespace Go.RegionLast
open Go

/-- The last operation waits for all others, and each other one for elder ones alone. -/
def dep (l : List Oper) (k j : Nat) : Bool := (l[k]?).any fun o => o.after.any fun e => Region.binds .any e && e.on == j
/-- Every operation between j and n is waited for by n, some way. -/
def cov (l : List Oper) (n : Nat) : Nat → List Nat → Bool
  | 0, _ => true
  | j + 1, ks => (dep l n j || ks.any fun k => dep l k j) && cov l n j (j :: ks)
def lastB (l : List Oper) (n : Nat) : Bool :=
  (n + 1 == l.length) && (l.all fun o => o.guard.isNone) &&
  ((List.range (n + 1)).all fun j => (l[j]?).all fun o => o.after.all fun e => !Region.binds .any e || decide (e.on < j)) &&
  cov l n n []

/-- What is asked behind the others: the last one. -/
def LastQ (P : Program) (ops : Array Oper) (tl : List Oper) (Q : Exit → Act → World → Prop) : Exit → Act → World → Prop
  | .normal, a, w => wpList P ops Q tl a w
  | e, a, w => Q e a w

variable {P : Program} {Q : Exit → Act → World → Prop}

theorem upon_swap {o : Oper} {a : Act} {w : World} {K K' : Act → World → Prop} {Q Q' : Exit → Act → World → Prop} (hK : ∀ a w, K a w → K' a w) (hQ : ∀ e a w, e ≠ .normal → Q e a w → Q' e a w) (h : Oper.wp P o a w K Q) : Oper.wp P o a w K' Q' := by
  unfold Oper.wp at *
  generalize (execOp a.eval o).run P w = r at *
  cases r with
  | ok n w' =>
    cases n <;> simp only [Oper.upon] at h ⊢
    case value u => exact hK _ _ h
    case skip => exact hK _ _ h
    case defer d => exact hK _ _ h
    case enter f args =>
      refine Calls.mono h fun e w'' he => ?_
      cases e with
      | returned u => exact hK _ _ he
      | panicked c => exact hQ _ _ _ (by simp) he
      | outgrown => exact let ⟨a, w, h⟩ := (he : LetsOut _); (⟨a, w, hQ _ _ _ (by simp) h⟩ : LetsOut _)
    case row row args => exact Rows.mono h fun u w'' he => hK _ _ he
  | halt x w' =>
    cases x <;> simp only [Oper.upon] at h ⊢
    case panic u => exact hQ _ _ _ (by simp) h

theorem wpOp_swap {ops ops' : Array Oper} {i : Nat} {o : Oper} {a : Act} {w : World} {K K' : Act → World → Prop} {Q Q' : Exit → Act → World → Prop} (ho : ops[i]? = some o) (ho' : ops'[i]? = some o) (hg : o.guard = none) (hK : ∀ a w, K a w → K' a w) (hQ : ∀ e a w, e ≠ .normal → Q e a w → Q' e a w)
    (h : wpOp P ops Q i K a w) : wpOp P ops' Q' i K' a w := by
  have hw : ∀ y, Region.wanted o y = true := fun y => by simp [Region.wanted, hg]
  unfold wpOp at *
  simp only [ho, ho', hw, if_true] at h ⊢
  rcases h with h | ⟨h1, h2⟩
  · exact .inl (upon_swap hK hQ h)
  · exact .inr ⟨h1, let ⟨a, w, h⟩ := h2; ⟨a, w, hQ _ _ _ (by simp) h⟩⟩

structure Last (l : List Oper) (n : Nat) : Prop where
  size : l.length = n + 1
  plain : ∀ o ∈ l, o.guard = none
  back : ∀ j o, j ≤ n → l[j]? = some o → ∀ e ∈ o.after, Region.binds .any e = true → e.on < j
  covers : cov l n n [] = true
theorem lastB_spec {l : List Oper} {n : Nat} (h : lastB l n = true) : Last l n := by
  simp only [lastB, Bool.and_eq_true, beq_iff_eq, List.all_eq_true, List.mem_range] at h
  obtain ⟨⟨⟨h1, h2⟩, h3⟩, h4⟩ := h
  refine ⟨h1.symm, fun o ho => by simpa using h2 o ho, fun j o hj ho e he hb => ?_, ?_⟩
  · have := h3 j (by omega)
    rw [ho] at this
    simp only [Option.all_some, Array.all_eq_true_iff_forall_mem] at this
    have := this e he
    simpa [hb] using this
  · exact h4
/-- listed with whatever it waits for -/
def Down (l : List Oper) (n : Nat) (L : Array Bool) : Prop := ∀ j o, j < n → l[j]? = some o → L.getD j false = true → ∀ e ∈ o.after, Region.binds .any e = true → L.getD e.on false = true
theorem dep_spec {l : List Oper} {k j : Nat} (h : dep l k j = true) : ∃ o, l[k]? = some o ∧ ∃ e ∈ o.after, Region.binds .any e = true ∧ e.on = j := by
  unfold dep at h
  cases ho : l[k]? with
  | none => rw [ho] at h; simp at h
  | some o =>
    rw [ho] at h
    simp only [Option.any_some] at h
    rw [Array.any_eq_true'] at h
    obtain ⟨e, he, h⟩ := h
    simp only [Bool.and_eq_true, beq_iff_eq] at h
    exact ⟨o, rfl, e, he, h.1, h.2⟩
theorem cov_spec {l : List Oper} {n : Nat} {L : Array Bool} (hd : Down l n L) (hn : ∀ o, l[n]? = some o → ∀ e ∈ o.after, Region.binds .any e = true → L.getD e.on false = true) :
    ∀ (j : Nat) (ks : List Nat), j ≤ n → (∀ k ∈ ks, k < n ∧ L.getD k false = true) → cov l n j ks = true → ∀ i, i < j → L.getD i false = true
  | 0, _, _, _, _, i, hi => absurd hi (Nat.not_lt_zero i)
  | j + 1, ks, hj, hks, h, i, hi => by
    simp only [cov, Bool.and_eq_true, Bool.or_eq_true] at h
    have h1 : L.getD j false = true := by
      rcases h.1 with h | h
      · obtain ⟨o, ho, e, he, hb, rfl⟩ := dep_spec h
        exact hn o ho e he hb
      · obtain ⟨k, hk, h⟩ := List.any_eq_true.1 h
        obtain ⟨o, ho, e, he, hb, rfl⟩ := dep_spec h
        exact hd k o (hks k hk).1 ho (hks k hk).2 e he hb
    by_cases e : i = j
    · subst e; exact h1
    · exact cov_spec hd hn j (j :: ks) (by omega) (fun k hk => by
        cases hk with
        | head => exact ⟨by omega, h1⟩
        | tail _ hk => exact hks k hk) h.2 i (by omega)

theorem getD_push_lt {L : Array Bool} {i : Nat} (d x : Bool) (h : i < L.size) : (L.push x).getD i d = L.getD i d := by
  simp [Array.getElem?_push_lt, h]
theorem getD_push_eq (L : Array Bool) (d x : Bool) : (L.push x).getD L.size d = x := by
  simp

section
variable {l : List Oper} {n : Nat}
theorem take_get {j : Nat} (hj : j < n) : (l.take n).toArray[j]? = l.toArray[j]? := by
  simp [List.getElem?_take, hj]
theorem ready_lt (H : Last l n) {L : Array Bool} (hL : L.size = n) {i : Nat} (hi : i < n) : i ∈ Region.ready .any l.toArray (L.push false) ↔ i ∈ Region.ready .any (l.take n).toArray L := by
  rw [mem_ready, mem_ready, getD_push_lt _ _ (by omega), take_get hi]
  refine and_congr Iff.rfl ⟨?_, ?_⟩
  · rintro ⟨o, ho, h⟩
    refine ⟨o, ho, fun e he hb => ?_⟩
    have := H.back i o (by omega) (by simpa using ho) e he hb
    rw [← getD_push_lt false false (by omega)]
    exact h e he hb
  · rintro ⟨o, ho, h⟩
    refine ⟨o, ho, fun e he hb => ?_⟩
    have := H.back i o (by omega) (by simpa using ho) e he hb
    rw [getD_push_lt false false (by omega)]
    exact h e he hb
theorem ready_init_lt {L : Array Bool} {i : Nat} (hi : i ∈ Region.ready .any (l.take n).toArray L) : i < n := by
  obtain ⟨_, o, ho, _⟩ := mem_ready.1 hi
  simp only [List.getElem?_toArray, List.getElem?_take] at ho
  split at ho
  · assumption
  · cases ho
theorem all_of_none (H : Last l n) {L : Array Bool} (h : Region.ready .any (l.take n).toArray L = []) : ∀ j, j < n → L.getD j true = true := by
  intro j
  induction j using Nat.strongRecOn with
  | ind j ih =>
    intro hj
    cases hL : L.getD j true with
    | true => rfl
    | false =>
      have hlen : j < l.length := by rw [H.size]; omega
      have : j ∈ Region.ready .any (l.take n).toArray L := by
        rw [mem_ready]
        refine ⟨hL, l[j], by simp [List.getElem?_take, hj, hlen], fun e he hb => ?_⟩
        have h1 := H.back j _ (by omega) (List.getElem?_eq_getElem hlen) e he hb
        have h2 := ih e.on h1 (by omega)
        have hsz : e.on < L.size := by
          have hjs : j < L.size := by
            rcases Nat.lt_or_ge j L.size with h | h
            · exact h
            · simp [h] at hL
          omega
        simpa [hsz] using h2
      rw [h] at this
      cases this
theorem ready_last (H : Last l n) {L : Array Bool} (hL : L.size = n) (hd : Down l n L) : n ∈ Region.ready .any l.toArray (L.push false) ↔ ∀ j, j < n → L.getD j true = true := by
  obtain ⟨o, ho⟩ : ∃ o, l[n]? = some o := ⟨_, List.getElem?_eq_getElem (by rw [H.size]; omega)⟩
  rw [mem_ready]
  constructor
  · rintro ⟨_, o', ho', h⟩ j hj
    have : o' = o := by simpa [ho] using ho'.symm
    subst this
    have := cov_spec hd (fun o2 ho2 e he hb => by
      have e2 : o2 = o' := by rw [ho] at ho2; exact (Option.some.inj ho2).symm
      subst e2
      have := h e he hb
      rw [getD_push_lt _ _ (by have := H.back n o2 (Nat.le_refl _) ho e he hb; omega)] at this
      exact this) n [] (Nat.le_refl _) (by simp) H.covers j hj
    simpa [show j < L.size from by omega] using this
  · intro h
    refine ⟨by rw [← hL]; simp, o, by simpa using ho, fun e he hb => ?_⟩
    have h1 := H.back n o (Nat.le_refl _) ho e he hb
    have h2 := h e.on h1
    rw [getD_push_lt _ _ (by omega)]
    simpa [show e.on < L.size from by omega] using h2

theorem any_last (H : Last l n) {Q : Exit → Act → World → Prop} : ∀ (fuel : Nat) (L : Array Bool) (a : Act) (w : World), L.size = n → Down l n L →
    wpAny P .any (l.take n).toArray (LastQ P l.toArray (l.drop n) Q) fuel L a w → wpAny P .any l.toArray Q (fuel + 1) (L.push false) a w := by
  obtain ⟨ol, hol⟩ : ∃ o, l[n]? = some o := ⟨_, List.getElem?_eq_getElem (by rw [H.size]; omega)⟩
  have hdrop : l.drop n = [ol] := by
    rw [List.drop_eq_getElem_cons (by rw [H.size]; omega), List.drop_eq_nil_of_le (by rw [H.size]; omega)]
    congr 1
    have := List.getElem?_eq_getElem (l := l) (i := n) (by rw [H.size]; omega)
    rw [this] at hol
    injection hol
  have hgl : ol.guard = none := H.plain ol (List.mem_of_getElem? hol)
  have hwl : ∀ y, Region.wanted ol y = true := fun y => by simp [Region.wanted, hgl]
  have hdone : ∀ (L : Array Bool), L.size = n → (∀ j, j < n → L.getD j true = true) → Region.ready .any l.toArray ((L.push false).setIfInBounds n true) = [] := by
    intro L hL hall
    refine List.eq_nil_iff_forall_not_mem.2 fun j hj => ?_
    obtain ⟨h0, o, ho, _⟩ := mem_ready.1 hj
    have hjn : j < n + 1 := by
      have := (List.getElem?_eq_some_iff.1 (by simpa using ho)).1
      rw [H.size] at this
      exact this
    by_cases hj2 : j = n
    · subst hj2
      simp [hL] at h0
    · rw [getD_set_ne true (Ne.symm hj2), getD_push_lt _ _ (by omega), hall j (by omega)] at h0
      cases h0
  have hlast : ∀ (fuel : Nat) (L : Array Bool) (a : Act) (w : World), L.size = n → (∀ j, j < n → L.getD j true = true) → LastQ P l.toArray (l.drop n) Q .normal a w → wpOp P l.toArray Q n (wpAny P .any l.toArray Q fuel ((L.push false).setIfInBounds n true)) a w := by
    intro fuel L a w hL hall h
    rw [hdrop] at h
    unfold LastQ wpList at h
    simp only [hwl, if_true] at h
    unfold wpOp
    simp only [List.getElem?_toArray, hol, hwl, if_true]
    refine h.imp (fun h => upon_swap (fun a w h => ?_) (fun _ _ _ _ h => h) h) id
    exact wpAny_done (hdone L hL hall) (by simpa [wpList] using h) fuel
  intro fuel
  induction fuel with
  | zero =>
    intro L a w hL hd h
    have hall := all_of_none H h.1
    refine ⟨fun h0 => ?_, fun i hi => ?_⟩
    · have := (ready_last H hL hd).2 hall
      rw [h0] at this
      cases this
    · by_cases hin : i = n
      · subst hin
        exact hlast 0 L a w hL hall h.2
      · have hlt : i < n := by
          obtain ⟨_, o, ho, _⟩ := mem_ready.1 hi
          have := (List.getElem?_eq_some_iff.1 (by simpa using ho)).1
          rw [H.size] at this
          omega
        rw [ready_lt H hL hlt, h.1] at hi
        cases hi
  | succ fuel ih =>
    intro L a w hL hd h
    refine ⟨fun h0 => ?_, fun i hi => ?_⟩
    · by_cases hr : Region.ready .any (l.take n).toArray L = []
      · have := (ready_last H hL hd).2 (all_of_none H hr)
        rw [h0] at this
        cases this
      · obtain ⟨i, hi⟩ := List.exists_mem_of_ne_nil _ hr
        have := (ready_lt H hL (ready_init_lt hi)).2 hi
        rw [h0] at this
        cases this
    · by_cases hin : i = n
      · subst hin
        have hall := (ready_last H hL hd).1 hi
        have hnil : Region.ready .any (l.take i).toArray L = [] := by
          refine List.eq_nil_iff_forall_not_mem.2 fun j hj => ?_
          have h1 := (mem_ready.1 hj).1
          rw [hall j (ready_init_lt hj)] at h1
          cases h1
        exact hlast _ L a w hL hall (h.1 hnil)
      · have hlt : i < n := by
          obtain ⟨_, o, ho, _⟩ := mem_ready.1 hi
          have := (List.getElem?_eq_some_iff.1 (by simpa using ho)).1
          rw [H.size] at this
          omega
        have hi' := (ready_lt H hL hlt).1 hi
        obtain ⟨o, ho⟩ : ∃ o, l[i]? = some o := ⟨_, List.getElem?_eq_getElem (by rw [H.size]; omega)⟩
        refine wpOp_swap (ops := (l.take n).toArray) (by simpa [List.getElem?_take, hlt] using ho) (by simpa using ho) (H.plain o (List.mem_of_getElem? ho)) (fun a w h => ?_) (fun e a w he h => ?_) (h.2 i hi')
        · have h2 := ih (L.setIfInBounds i true) a w (by simpa using hL) (fun j oj hj hoj hlj e he hb => by
            by_cases hei : i = e.on
            · subst hei
              simp [show e.on < L.size from by omega]
            · rw [getD_set_ne false hei]
              by_cases hji : i = j
              · subst hji
                obtain ⟨_, o2, ho2, h2⟩ := mem_ready.1 hi'
                have e2 : o2 = oj := by
                  rw [take_get hlt] at ho2
                  simp only [List.getElem?_toArray] at ho2
                  rw [hoj] at ho2
                  exact (Option.some.inj ho2).symm
                subst e2
                exact h2 e he hb
              · rw [getD_set_ne false hji] at hlj
                exact hd j oj hj hoj hlj e he hb) h
          have e1 : (L.setIfInBounds i true).push false = (L.push false).setIfInBounds i true := by
            apply Array.ext_getElem?
            intro j
            simp only [Array.getElem?_push, Array.getElem?_setIfInBounds, Array.size_setIfInBounds, Array.size_push]
            by_cases e1 : j = L.size
            · subst e1
              have : i ≠ L.size := by omega
              simp [this]
            · by_cases e2 : i = j
              · subst e2
                simp [e1, show i < L.size from by omega, show i < L.size + 1 from by omega]
              · simp [e1, e2]
          rw [← e1]
          exact h2
        · cases e <;> first | exact absurd rfl he | exact h
theorem wp_region_last {id : Nat} {a : Act} {w : World} (hm : P.follows .mixedOrders = true) (n : Nat) (hB : lastB l n = true)
    (h : wpAny P .any (l.take n).toArray (LastQ P l.toArray (l.drop n) Q) n (Array.replicate n false) a { w with drawn := w.drawn + 1 }) : (Code.region id l.toArray true).wp P Q a w := by
  have H := lastB_spec hB
  refine wp_region_any hm ?_
  have := any_last H n (Array.replicate n false) a _ (by simp) (fun j o hj ho hl => by simp [hj] at hl) h
  rw [show l.toArray.size = n + 1 from by simp [H.size], Array.replicate_succ]
  exact this

theorem wp_region_last_quiet {id : Nat} {a : Act} {w : World} (hm : P.follows .mixedOrders = true) (n : Nat) (hB : lastB l n = true) (hq : Region.lexB .any (l.take n).toArray = true)
    (h : wpQuiet P (l.take n).toArray (fun w' => ∃ n, w' = w.drewN n) (fun a' => ∀ w', (∃ n, w' = w.drewN n) → wpList P l.toArray Q (l.drop n) a' w') (l.take n) a) : (Code.region id l.toArray true).wp P Q a w := by
  have H := lastB_spec hB
  refine wp_region_last hm n hB ?_
  simp only [Region.lexB, Bool.and_eq_true] at hq
  have hlen : (l.take n).length = n := by rw [List.length_take, H.size]; omega
  refine wpAny_of_quiet (C := fun w' => ∃ n, w' = w.drewN n) (Q := fun a' => ∀ w', (∃ n, w' = w.drewN n) → wpList P l.toArray Q (l.drop n) a' w') (fun _ w' hw' h => h w' hw') _ _ _ _ ⟨1, rfl⟩ ?_
  have := wpAnyQ_lex (C := fun w' => ∃ n, w' = w.drewN n) (md := .any) hq.1 (l.take n) 0 (Array.replicate n false) a (by simp) (by rw [hlen]; simpa [hlen] using hq.2) h
  rw [hlen] at this
  exact this

/-- .. the last one found by itself. -/
theorem wp_region_end_quiet {id : Nat} {a : Act} {w : World} (hm : P.follows .mixedOrders = true) (hB : lastB l (l.length - 1) = true) (hq : Region.lexB .any (l.take (l.length - 1)).toArray = true)
    (h : wpQuiet P (l.take (l.length - 1)).toArray (fun w' => ∃ n, w' = w.drewN n) (fun a' => ∀ w', (∃ n, w' = w.drewN n) → wpList P l.toArray Q (l.drop (l.length - 1)) a' w') (l.take (l.length - 1)) a) : (Code.region id l.toArray true).wp P Q a w :=
  wp_region_last_quiet hm _ hB hq h

theorem wp_region_end_held {id : Nat} {a : Act} {w : World} {S : World → Prop} (hm : P.follows .mixedOrders = true) (hB : lastB l (l.length - 1) = true) (hS : S w.drew)
    (h : S w.drew → wpAnyH P .any (l.take (l.length - 1)).toArray (LastQ P l.toArray (l.drop (l.length - 1)) Q) S (l.length - 1) (Array.replicate (l.length - 1) false) a w.drew) : (Code.region id l.toArray true).wp P Q a w :=
  wp_region_last hm _ hB (wpAny_of_held _ _ _ _ (h hS))
theorem wp_region_last_held {id : Nat} {a : Act} {w : World} {S : World → Prop} (hm : P.follows .mixedOrders = true) (n : Nat) (hB : lastB l n = true) (hS : S w.drew)
    (h : S w.drew → wpAnyH P .any (l.take n).toArray (LastQ P l.toArray (l.drop n) Q) S n (Array.replicate n false) a w.drew) : (Code.region id l.toArray true).wp P Q a w :=
  wp_region_last hm n hB (wpAny_of_held _ _ _ _ (h hS))
end

end Go.RegionLast

namespace Go.Proofs.YtbkhademplgicaaGreatDoor
open Go.RowKit
set_option linter.unusedVariables false
theorem addTo_keys (F : List (Nm × By)) (n : Nm) (c : By) : (addTo F n c).map (·.1) = F.map (·.1) := by
  unfold addTo
  rw [List.map_map]
  apply List.map_congr_left
  intro x _
  simp only [Function.comp]
  split <;> simp_all
theorem addTo_none {F : List (Nm × By)} {n : Nm} (h : n ∉ F.map (·.1)) (c : By) : addTo F n c = F := by
  unfold addTo
  rw [List.map_congr_left (g := id) (fun x hx => ?_), List.map_id]
  rw [if_neg (fun e => h (List.mem_map.2 ⟨x, hx, e⟩))]
  rfl
theorem usedOf_cons_none {F : List (Nm × By)} {x : Nm × By} (h : x.1 ∉ F.map (·.1)) (rest : List (Nm × By)) : usedOf F (x :: rest) = usedOf F rest := by
  unfold usedOf
  congr 1
  apply List.map_congr_left
  intro y hy
  rw [moreOf, if_neg (fun e => h (List.mem_map.2 ⟨y, hy, e.symm⟩)), Nat.zero_add]
theorem used_step {F : List (Nm × By)} {x : Nm × By} {s c : By} {rest : List (Nm × By)} (hn : (F.map (·.1)).Nodup) (h : (x.1, s) ∈ F) :
    usedOf (addTo F x.1 c) rest + needs (s.length + moreOf (x :: rest) x.1) = usedOf F (x :: rest) + needs (s.length + c.length + moreOf rest x.1) := by
  induction F with
  | nil => cases h
  | cons y l ih =>
    simp only [List.map_cons, List.nodup_cons] at hn
    cases h with
    | head =>
      have e1 := addTo_none hn.1 c
      have e2 := usedOf_cons_none (x := x) hn.1 rest
      simp only [usedOf] at e2 ⊢
      simp only [addTo, List.map_cons, if_true, List.sum_cons] at e1 ⊢
      rw [e1, e2, List.length_append]
      simp only [moreOf, if_true]
      omega
    | tail _ h =>
      have ih := ih hn.2 h
      have hne : y.1 ≠ x.1 := fun e => hn.1 (e ▸ List.mem_map.2 ⟨_, h, rfl⟩)
      have e3 : moreOf (x :: rest) y.1 = moreOf rest y.1 := by simp [moreOf, Ne.symm hne]
      simp only [usedOf, addTo] at ih ⊢
      simp only [List.map_cons, List.sum_cons, if_neg hne, e3]
      omega
theorem map_keys {F F' : List (Nm × By)} (h : F.map (·.1) = F'.map (·.1)) (g : Nm → Value) : (F.map fun x => (x.1, g x.1)) = F'.map fun x => (x.1, g x.1) := by
  have := congrArg (List.map fun n => (n, g n)) h
  simpa [List.map_map, Function.comp_def] using this
theorem mem_keys {F : List (Nm × By)} {n : Nm} (h : n ∈ F.map (·.1)) : ∃ s, (n, s) ∈ F := by
  obtain ⟨x, hx, rfl⟩ := List.mem_map.1 h
  exact ⟨x.2, hx⟩
theorem key_one {F : List (Nm × By)} (hn : (F.map (·.1)).Nodup) {n : Nm} {s t : By} (h : (n, s) ∈ F) (h' : (n, t) ∈ F) : s = t := by
  induction F with
  | nil => cases h
  | cons y l ih =>
    simp only [List.map_cons, List.nodup_cons] at hn
    cases h with
    | head =>
      cases h' with
      | head => rfl
      | tail _ h' => exact absurd (List.mem_map.2 ⟨_, h', rfl⟩) hn.1
    | tail _ h =>
      cases h' with
      | head => exact absurd (List.mem_map.2 ⟨_, h, rfl⟩) hn.1
      | tail _ h' => exact ih hn.2 h h'


/-- The disk within settle: k writes are done. -/
structure St (w0 w : World) (p m : Nat) (ro0 ro : Nat → Role) (fp : Nm → Nat) (D : DS) (bv : Value) (BV : List (Nm × By × Value)) (k : Nat) (F : List (Nm × By)) : Prop where
  cell : w.heap[p]? = some (.cells (dcs D (usedOf F (D.B.drop k)) m bv) 91 (0, 0))
  map : SMap w m (D.F.map fun x => (x.1, .pointer (some ⟨fp x.1, 0, none⟩)))
  fl : Fl w ro fp F (D.B.drop k)
  bf : Bf w ro fp D.B bv BV
  rp : ro p = .disk
  rm : ro m = .map
  lt : ∀ b, ro b ≠ .none → b < w.heap.size
  keys : F.map (·.1) = D.F.map (·.1)
  us : usedOf F (D.B.drop k) ≤ usedOf D.F D.B
  ext : ∀ b, b < w0.heap.size → ro0 b = .none → ro b = .none
  kp : Kp (fun b => ro0 b = .none) w0 w
theorem St.kept {S : Nat → Prop} {w0 w w' : World} {p m : Nat} {ro0 ro : Nat → Role} {fp : Nm → Nat} {D : DS} {bv : Value} {BV : List (Nm × By × Value)} {k : Nat} {F : List (Nm × By)} (h : St w0 w p m ro0 ro fp D bv BV k F) (k2 : Kp All w w') : St w0 w' p m ro0 ro fp D bv BV k F where
  cell := k2.heap h.cell trivial
  map := h.map.all k2
  fl := h.fl.kept k2 fun _ _ => trivial
  bf := h.bf.kept k2 fun _ _ => trivial
  rp := h.rp
  rm := h.rm
  lt := fun b hb => Nat.lt_of_lt_of_le (h.lt b hb) k2.size
  keys := h.keys
  us := h.us
  ext := h.ext
  kp := h.kp.trans k2.all

theorem St.next {w0 wr wF : World} {p m : Nat} {ro0 ro : Nat → Role} {fp : Nm → Nat} {D : DS} {bv : Value} {BV : List (Nm × By × Value)} {k : Nat} {F : List (Nm × By)} (h : St w0 wr p m ro0 ro fp D bv BV k F)
    {x : Nm × By} {s c : By} {sv v3 : Value} {N : Nat} (hx : D.B[k]? = some x) (hdrop : D.B.drop k = x :: D.B.drop (k + 1)) (hs : (x.1, s) ∈ F) (hnd : (F.map (·.1)).Nodup)
    (hq : ∀ b, sv.ownBlock = some b → ro b = .sure (fp x.1)) (hcell : wF.heap[p]? = some (.cells (dcs D (usedOf (addTo F x.1 c) (D.B.drop (k + 1))) m bv) 91 (0, 0)))
    (hfile : wF.heap[fp x.1]? = some (.cells #[v3, .int .i64 (moreOf (D.B.drop (k + 1)) x.1)] 129 (0, 0))) (hown : wF.ownsRow 0 5 1 v3 (s ++ c).length (u8s (s ++ c)))
    (hob : v3.ownBlock = sv.ownBlock ∨ v3.ownBlock = some N) (hN : wr.heap.size ≤ N) (kp : Kp (fun b => b ≠ p ∧ b ≠ fp x.1 ∧ some b ≠ sv.ownBlock) wr wF) (hle : usedOf (addTo F x.1 c) (D.B.drop (k + 1)) ≤ usedOf F (D.B.drop k)) :
    ∃ ro', St w0 wF p m ro0 ro' fp D bv BV (k + 1) (addTo F x.1 c) := by
  have hf := h.fl.role _ hs
  simp only at hf
  -- what is no file's row and no new block
  have hold : ∀ b, ro b ≠ .sure (fp x.1) → b < wr.heap.size → some b ≠ v3.ownBlock := by
    intro b hb hlt e
    rcases hob with h1 | h1
    · rw [h1] at e
      exact hb (hq b e.symm)
    · rw [h1] at e
      injection e with e
      omega
  have hro : ∀ b, ro b ≠ .sure (fp x.1) → ro b ≠ .none → (if some b = v3.ownBlock then Role.sure (fp x.1) else ro b) = ro b := fun b hb hn => if_neg (hold b hb (h.lt b hn))
  have hkeep : ∀ b, ro b ≠ .none → ro b ≠ .disk → ro b ≠ .sure (fp x.1) → b ≠ fp x.1 → b ≠ p ∧ b ≠ fp x.1 ∧ some b ≠ sv.ownBlock := fun b _ h2 h3 h4 => ⟨fun e => h2 (e ▸ h.rp), h4, fun e => h3 (hq b e.symm)⟩
  refine ⟨fun b => if some b = v3.ownBlock then .sure (fp x.1) else ro b, hcell, ?_, ⟨?_, ?_, ?_⟩, ⟨h.bf.eq, ?_, ?_, ?_, h.bf.one⟩, ?_, ?_, ?_, ?_, ?_, ?_, ?_⟩
  · exact h.map.kept kp (hkeep m (by rw [h.rm]; decide) (by rw [h.rm]; decide) (by rw [h.rm]; simp) (fun e => by rw [← e, h.rm] at hf; cases hf))
  · intro y hy
    obtain ⟨z, hz, rfl⟩ := List.mem_map.1 hy
    by_cases e : z.1 = x.1
    · rw [if_pos e]
      have : z.2 = s := key_one hnd (n := x.1) (by rw [← e]; exact hz) hs
      subst this
      simp only
      rw [e]
      exact ⟨v3, hfile, hown, fun b hb => if_pos hb.symm⟩
    · rw [if_neg e]
      obtain ⟨v, h1, h2, h3⟩ := h.fl.lie z hz
      have hne : fp z.1 ≠ fp x.1 := fun e2 => e (h.fl.inj z hz (x.1, s) hs e2)
      have hzr := h.fl.role z hz
      refine ⟨v, ?_, ?_, ?_⟩
      · rw [hdrop, moreOf, if_neg (Ne.symm e), Nat.zero_add] at h1
        exact kp.heap h1 (hkeep _ (by rw [hzr]; decide) (by rw [hzr]; decide) (by rw [hzr]; simp) hne)
      · refine own_kept h2 kp fun b hb => ?_
        have h4 := h3 b hb
        exact hkeep b (by rw [h4]; simp) (by rw [h4]; simp) (by rw [h4]; simpa using hne) (fun e2 => by rw [e2, hf] at h4; cases h4)
      · intro b hb
        have h4 := h3 b hb
        rw [hro b (by rw [h4]; simpa using hne) (by rw [h4]; simp)]
        exact h4
  · intro y hy
    obtain ⟨z, hz, rfl⟩ := List.mem_map.1 hy
    have hzr := h.fl.role z hz
    have : (if z.1 = x.1 then (z.1, z.2 ++ c) else z).1 = z.1 := by split <;> rfl
    rw [this, hro _ (by rw [hzr]; simp) (by rw [hzr]; decide)]
    exact hzr
  · intro y hy y' hy' e
    obtain ⟨z, hz, rfl⟩ := List.mem_map.1 hy
    obtain ⟨z', hz', rfl⟩ := List.mem_map.1 hy'
    have e1 : (if z.1 = x.1 then (z.1, z.2 ++ c) else z).1 = z.1 := by split <;> rfl
    have e2 : (if z'.1 = x.1 then (z'.1, z'.2 ++ c) else z').1 = z'.1 := by split <;> rfl
    rw [e1, e2] at e ⊢
    exact h.fl.inj z hz z' hz' e
  · refine own_kept h.bf.row kp fun b hb => ?_
    have h4 := h.bf.role b hb
    exact hkeep b (by rw [h4]; simp) (by rw [h4]; simp) (by rw [h4]; simp) (fun e2 => by rw [e2, hf] at h4; cases h4)
  · intro b hb
    have h4 := h.bf.role b hb
    rw [hro b (by rw [h4]; simp) (by rw [h4]; simp)]
    exact h4
  · intro y hy
    obtain ⟨h1, h2⟩ := h.bf.data y hy
    refine ⟨own_kept h1 kp fun b hb => ?_, fun b hb => ?_⟩
    · have h4 := h2 b hb
      exact hkeep b (by rw [h4]; simp) (by rw [h4]; simp) (by rw [h4]; simp) (fun e2 => by rw [e2, hf] at h4; cases h4)
    · have h4 := h2 b hb
      rw [hro b (by rw [h4]; simp) (by rw [h4]; simp)]
      exact h4
  · rw [hro p (by rw [h.rp]; simp) (by rw [h.rp]; simp)]
    exact h.rp
  · rw [hro m (by rw [h.rm]; simp) (by rw [h.rm]; simp)]
    exact h.rm
  · intro b hb
    split at hb
    · rename_i e
      exact (hown.lt b e.symm).2
    · exact Nat.lt_of_lt_of_le (h.lt b hb) kp.size
  · rw [addTo_keys]
    exact h.keys
  · exact Nat.le_trans hle h.us
  · intro b hb hn
    have h1 := h.ext b hb hn
    rw [if_neg (hold b (by rw [h1]; simp) (Nat.lt_of_lt_of_le hb h.kp.size))]
    exact h1
  · refine h.kp.then kp fun b hb hn => ?_
    have h1 := h.ext b hb hn
    exact ⟨(fun e => by rw [e, h.rp] at h1; cases h1), (fun e => by rw [e, hf] at h1; cases h1), (fun e => by rw [hq b e.symm] at h1; cases h1)⟩

end Go.Proofs.YtbkhademplgicaaGreatDoor

namespace Go.Proofs.YtbkhademplgicaaGreatDoor
open Go.RowKit
set_option linter.unusedVariables false
set_option linter.unusedSimpArgs false

set_option maxRecDepth 100000 in
set_option maxHeartbeats 2000000 in
theorem settle_any (p : Nat) (ro : Nat → Role) (D : DS) (n : Nat) (hn : n ≤ 9223372036854775807) (w : World) (h : Dk w p ro D) :
    Calls Tryz.prog 67 #[.pointer (some ⟨p, 0, none⟩), .int .i64 n] w fun e w' => e = .returned (.tuple #[]) ∧ Nx w ro p (D.settle n) w' := by
  obtain ⟨m, fp, bv, BV, h⟩ := h
  have H := hid h
  have c1 := blk_cell h.cell
  obtain ⟨l, hl⟩ : ∃ l, D.B.length = l := ⟨_, rfl⟩
  obtain ⟨A, c, hbv⟩ := own_shape h.bf.row
  have hnm := own_le h.bf.row
  rw [hl] at hbv hnm
  have HL := hid hl
  unfold dcs at c1
  subst hbv
  clear h hl
  go_enter Tryz.func67, Tryz.ntmps67
  go_wp2_with fail
  go_loopw [1, 12] (fun x i wr => ∃ (k n' : Nat) (F : List (Nm × By)) (ro' : Nat → Role), k ≤ l ∧ n' ≤ n ∧ i = .int .i64 k ∧ x = .int .i64 n' ∧ Hid (settleF F (D.B.drop k) n' = settleF D.F D.B n) ∧ Hid (St w wr p m ro ro' fp D (.slice A l c) BV k F)) (fun _ i _ => l - (intOf i).toNat)
  case atStart =>
    refine ⟨0, n, D.F, ro, Nat.zero_le _, Nat.le_refl _, rfl, rfl, rfl, ?_⟩
    have h := H.out
    exact ⟨h.cell, h.map, h.fl, h.bf, h.rp, h.rm, h.lt, rfl, Nat.le_refl _, fun _ _ h => h, Kp.refl _ _⟩
  case round =>
    obtain ⟨k, n', F, ro', hk, hnn, rfl, rfl, hset, hst⟩ := hrel
    by_cases hlt : k < l
    · have hb0 : decide ((k : Int) < (l : Int)) = true := decide_eq_true (by omega)
      obtain ⟨x, hx⟩ : ∃ x, D.B[k]? = some x := ⟨_, List.getElem?_eq_getElem (by rw [HL.out]; exact hlt)⟩
      have hdrop : D.B.drop k = x :: D.B.drop (k + 1) := by
        rw [List.drop_eq_getElem_cons (by rw [HL.out]; exact hlt)]
        congr 1
        have := List.getElem?_eq_getElem (l := D.B) (i := k) (by rw [HL.out]; exact hlt)
        rw [this] at hx
        injection hx
      obtain ⟨g, cap, A', c', e1, _, p1, p2, p3, p4, p5⟩ := hst.out.bf.at hx
      rw [HL.out] at e1
      injection e1 with eA _ ec
      subst eA ec
      obtain ⟨s, hs⟩ := mem_keys (n := x.1) (F := F) (by rw [hst.out.keys]; exact H.out.names x (List.mem_of_getElem? hx))
      obtain ⟨sv, q1, q2, q3⟩ := hst.out.fl.lie _ hs
      have q4 := hst.out.fl.role _ hs
      obtain ⟨SA, sc, rfl⟩ := own_shape q2
      have hnd : (F.map (·.1)).Nodup := by
        rw [hst.out.keys]
        have := H.out.map.nodup strKey
        simpa [List.map_map, Function.comp_def] using this
      have hu := used_step (rest := D.B.drop (k + 1)) (c := x.2.take n') hnd hs
      have hule := le_usedOf (B := D.B.drop k) hs
      have hus := hst.out.us
      have hbl := H.out.bl
      have hul := H.out.us
      have hm : moreOf (D.B.drop k) x.1 = x.2.length + moreOf (D.B.drop (k + 1)) x.1 := by rw [hdrop]; simp [moreOf]
      rw [← hdrop] at hu
      simp only at hu hule q1 q2 q3 q4 p3
      obtain ⟨f, hf⟩ : ∃ f, fp x.1 = f := ⟨_, rfl⟩
      obtain ⟨lb, hlb⟩ : ∃ z, x.2.length = z := ⟨_, rfl⟩
      obtain ⟨ls, hls⟩ : ∃ z, s.length = z := ⟨_, rfl⟩
      obtain ⟨mo, hmo⟩ : ∃ z, moreOf (D.B.drop (k + 1)) x.1 = z := ⟨_, rfl⟩
      obtain ⟨u, hu1⟩ : ∃ z, usedOf F (D.B.drop k) = z := ⟨_, rfl⟩
      have cP := hst.out.cell
      obtain ⟨kk, hkk⟩ : ∃ z, min lb n' = z := ⟨_, rfl⟩
      have hmn := fun w => run_min2 (P := Tryz.prog) w 3 3 .i64 (lb : Int) (n' : Int)
      rw [show min (lb : Int) (n' : Int) = ((min lb n' : Nat) : Int) from by omega, hkk] at hmn
      have hk1 : kk ≤ lb := by omega
      have hk2 : kk ≤ n' := by omega
      rw [List.length_take, Nat.min_comm, hmo] at hu
      rw [hm, hmo] at hu hule q1
      rw [hf] at q1 q3 q4 p1
      rw [hlb] at hu hule q1 p2 p3 p4
      rw [hkk] at hu
      rw [hls] at hu hule q1 q2
      rw [hu1] at hu hule hus cP
      have i0 : (0 : Int) ≤ (k : Int) := by omega
      have i1 : (k : Int) < (l : Int) := by omega
      have b1 := blk_alloc cP (.cells #[.pointer (some ⟨f, 0, none⟩), .slice A' lb c'] 133)
      have b2 := blk_alloc q1 (.cells #[.pointer (some ⟨f, 0, none⟩), .slice A' lb c'] 133)
      have b3 := blk_new wr (.cells #[.pointer (some ⟨f, 0, none⟩), .slice A' lb c'] 133)
      have B1 := hid b1; have B2 := hid b2; have B3 := hid b3; have HU := hid hu
      have c1 := blk_cell b1; have c2 := blk_cell b2; have c3 := blk_cell b3
      have f1 := blk_free b1; have f2 := blk_free b2; have f3 := blk_free b3
      unfold dcs at c1
      clear b1 b2 b3 cP hu
      have hz : ls + (lb + mo) ≤ 1073741824 := by unfold needs at hule; omega
      go_wp2_with fail
      refine RegionLast.wp_region_end_quiet (by kernel_rfl) (by kernel_rfl) (by kernel_rfl) ?_; simp only [List.length_cons, List.length_nil, Nat.zero_add, Nat.reduceAdd, Nat.reduceSub, List.take_succ_cons, List.take_zero, List.drop_succ_cons, List.drop_zero]
      repeat (go_big_quiet_step ((first | (go_at_call 102; refine (size_any f SA ls sc (lb + mo) (by omega) (by omega) _ (by exact B2.out)).mono ?_; rintro e w1 ⟨rfl, q, rfl⟩; exact ⟨rfl, _, World.drewN_drewN _ _ _⟩) | (go_at_call 101; refine (needs_any _ (by omega) _).mono ?_; rintro e w2 ⟨rfl, rfl⟩; exact ⟨rfl, _, rfl⟩))))
      refine wpQuiet_nil ?_; intro _ hw'; obtain ⟨nq, hw''⟩ := hw'; subst hw''
      go_wp2_with fail
      have hpf : f ≠ p := fun e => by rw [e, hst.out.rp] at q4; cases q4
      have hps : p < wr.heap.size := blk_lt hst.out.cell
      have hfs : f < wr.heap.size := hst.out.lt f (by rw [q4]; decide)
      have b1 := blk_set (w := (wr.alloc (.cells #[.pointer (some ⟨f, 0, none⟩), .slice A' lb c'] 133)).drewN nq) (b := p) (by exact B1.out) 1 (.int .i64 ((u : Int) - (needs (ls + (lb + mo)) : Nat)))
      have b2 := blk_far (w := (wr.alloc (.cells #[.pointer (some ⟨f, 0, none⟩), .slice A' lb c'] 133)).drewN nq) (b := f) (by exact B2.out) (p := ⟨p, 1, none⟩) hpf (.int .i64 ((u : Int) - (needs (ls + (lb + mo)) : Nat)))
      have b3 := blk_far (w := (wr.alloc (.cells #[.pointer (some ⟨f, 0, none⟩), .slice A' lb c'] 133)).drewN nq) (b := wr.heap.size) (by exact B3.out) (p := ⟨p, 1, none⟩) (by simp; omega) (.int .i64 ((u : Int) - (needs (ls + (lb + mo)) : Nat)))
      have k2 : Kp (fun b => b ≠ p) wr ((((wr.alloc (.cells #[.pointer (some ⟨f, 0, none⟩), .slice A' lb c'] 133)).drewN nq).setCell ⟨p, 1, none⟩ (.int .i64 ((u : Int) - (needs (ls + (lb + mo)) : Nat))))) := (((Kp.refl _ _).alloc _).drewN _).setOut (by simp) _
      rw [show ((dcs D (u : Int) m (.slice (some ⟨g, 0, none⟩) l c)).setIfInBounds 1 (.int .i64 ((u : Int) - (needs (ls + (lb + mo)) : Nat)))) = dcs D ((u : Int) - (needs (ls + (lb + mo)) : Nat)) m (.slice (some ⟨g, 0, none⟩) l c) from rfl] at b1
      obtain ⟨w2, hw2⟩ : ∃ w2, w2 = ((((wr.alloc (.cells #[.pointer (some ⟨f, 0, none⟩), .slice A' lb c'] 133)).drewN nq).setCell ⟨p, 1, none⟩ (.int .i64 ((u : Int) - (needs (ls + (lb + mo)) : Nat))))) := ⟨_, rfl⟩
      rw [← hw2] at b1 b2 b3 k2 ⊢
      clear c1 c2 c3 f1 f2 f3 hw2
      have q2' := own_kept q2 k2 (fun b hb e => by have := q3 b (by rw [hls]; exact hb); rw [e, hst.out.rp] at this; cases this)
      have p3' := own_kept p3 k2 (fun b hb e => by have := p4 b hb; rw [e, hst.out.rp] at this; cases this)
      have B1 := hid b1; have B2 := hid b2; have B3 := hid b3; have K2 := hid k2; have Q2 := hid q2'; have P3 := hid p3'
      have c1 := blk_cell b1; have c2 := blk_cell b2; have cc3 := blk_cell b3
      have f1 := blk_free b1; have f2 := blk_free b2; have f3 := blk_free b3
      unfold dcs at c1
      clear b1 b2 b3 k2 q2' p3'
      have hc0 : (0 : Int) ≤ (kk : Int) := by omega
      have hc1 : (kk : Int) ≤ (c' : Int) := by have := (own_sl p3 hk1).2; omega
      have nb : ∀ z, (z = p ∨ z = f ∨ z = wr.heap.size) → some z ≠ (Value.slice SA ls sc).ownBlock := by
        rintro z hz e
        have h1 := q3 z (by rw [hls]; exact e.symm)
        have h2 := hst.out.lt z (by rw [h1]; simp)
        rcases hz with rfl | rfl | rfl
        · rw [hst.out.rp] at h1; cases h1
        · rw [q4] at h1; cases h1
        · omega
      have hls2 : ls + kk ≤ 1073741824 := by omega
      refine RegionLast.wp_region_end_held (S := fun w' => (∀ i, w'.cell? ⟨f, i, none⟩ = (#[.slice SA ls sc, .int .i64 ((lb + mo : Nat) : Int)] : Array Value)[i]?) ∧ (∀ i, w'.cell? ⟨wr.heap.size, i, none⟩ = (#[.pointer (some ⟨f, 0, none⟩), .slice A' lb c'] : Array Value)[i]?)) (by kernel_rfl) (by kernel_rfl) ⟨c2, cc3⟩ (fun hHeld => ?_)
      simp only [List.length_cons, List.length_nil, Nat.zero_add, Nat.reduceAdd, Nat.reduceSub, List.take_succ_cons, List.take_zero, List.drop_succ_cons, List.drop_zero]
      (refine wpAnyH_take (i := 0) (oi := _) (v := ?_) (by (simp only [List.getElem?_toArray, List.getElem?_cons_succ, List.getElem?_cons_zero]); rfl) (by kernel_rfl) (by kernel_rfl) (by kernel_rfl) (by exact fun _ _ _ h => h) (Or.inl ⟨by rfl, ?_⟩) (by assumption) ?_; rotate_left; focus ((intro w hSw; (try dsimp only at hSw); go_simp) <;> with_reducible rfl); (try simp only [Act.put, List.getElem_toArray, List.getElem_cons_succ, List.getElem_cons_zero, List.setIfInBounds_toArray, List.set_cons_zero, List.set_cons_succ]))
      (refine wpAnyH_take (i := 1) (oi := _) (v := ?_) (by (simp only [List.getElem?_toArray, List.getElem?_cons_succ, List.getElem?_cons_zero]); rfl) (by kernel_rfl) (by kernel_rfl) (by kernel_rfl) (by exact fun _ _ _ h => h) (Or.inl ⟨by rfl, ?_⟩) (by assumption) ?_; rotate_left; focus ((intro w hSw; (try dsimp only at hSw); go_simp) <;> with_reducible rfl); (try simp only [Act.put, List.getElem_toArray, List.getElem_cons_succ, List.getElem_cons_zero, List.setIfInBounds_toArray, List.set_cons_zero, List.set_cons_succ]))
      (refine wpAnyH_take (i := 2) (oi := _) (v := ?_) (by (simp only [List.getElem?_toArray, List.getElem?_cons_succ, List.getElem?_cons_zero]); rfl) (by kernel_rfl) (by kernel_rfl) (by kernel_rfl) (by exact fun _ _ _ h => h) (Or.inl ⟨by rfl, ?_⟩) (by assumption) ?_; rotate_left; focus ((intro w hSw; (try dsimp only at hSw); go_simp) <;> with_reducible rfl); (try simp only [Act.put, List.getElem_toArray, List.getElem_cons_succ, List.getElem_cons_zero, List.setIfInBounds_toArray, List.set_cons_zero, List.set_cons_succ]))
      (refine wpAnyH_take (i := 3) (oi := _) (v := ?_) (by (simp only [List.getElem?_toArray, List.getElem?_cons_succ, List.getElem?_cons_zero]); rfl) (by kernel_rfl) (by kernel_rfl) (by kernel_rfl) (by exact fun _ _ _ h => h) (Or.inl ⟨by rfl, ?_⟩) (by assumption) ?_; rotate_left; focus ((intro w hSw; (try dsimp only at hSw); go_simp) <;> with_reducible rfl); (try simp only [Act.put, List.getElem_toArray, List.getElem_cons_succ, List.getElem_cons_zero, List.setIfInBounds_toArray, List.set_cons_zero, List.set_cons_succ]))
      (refine wpAnyH_take (i := 4) (oi := _) (v := ?_) (by (simp only [List.getElem?_toArray, List.getElem?_cons_succ, List.getElem?_cons_zero]); rfl) (by kernel_rfl) (by kernel_rfl) (by kernel_rfl) (by exact fun _ _ _ h => h) (Or.inl ⟨by rfl, ?_⟩) (by assumption) ?_; rotate_left; focus ((intro w hSw; (try dsimp only at hSw); go_simp) <;> with_reducible rfl); (try simp only [Act.put, List.getElem_toArray, List.getElem_cons_succ, List.getElem_cons_zero, List.setIfInBounds_toArray, List.set_cons_zero, List.set_cons_succ]))
      (refine wpAnyH_take (i := 5) (oi := _) (v := ?_) (by (simp only [List.getElem?_toArray, List.getElem?_cons_succ, List.getElem?_cons_zero]); rfl) (by kernel_rfl) (by kernel_rfl) (by kernel_rfl) (by exact fun _ _ _ h => h) (Or.inl ⟨by rfl, ?_⟩) (by assumption) ?_; rotate_left; focus ((intro w hSw; (try dsimp only at hSw); go_simp) <;> with_reducible rfl); (try simp only [Act.put, List.getElem_toArray, List.getElem_cons_succ, List.getElem_cons_zero, List.setIfInBounds_toArray, List.set_cons_zero, List.set_cons_succ]))
      (refine wpAnyH_take (i := 6) (oi := _) (v := ?_) (by (simp only [List.getElem?_toArray, List.getElem?_cons_succ, List.getElem?_cons_zero]); rfl) (by kernel_rfl) (by kernel_rfl) (by kernel_rfl) (by exact fun _ _ _ h => h) (Or.inl ⟨by rfl, ?_⟩) (by assumption) ?_; rotate_left; focus ((intro w hSw; (try dsimp only at hSw); go_simp) <;> with_reducible rfl); (try simp only [Act.put, List.getElem_toArray, List.getElem_cons_succ, List.getElem_cons_zero, List.setIfInBounds_toArray, List.set_cons_zero, List.set_cons_succ]))
      (refine wpAnyH_take (i := 7) (oi := _) (v := ?_) (by (simp only [List.getElem?_toArray, List.getElem?_cons_succ, List.getElem?_cons_zero]); rfl) (by kernel_rfl) (by kernel_rfl) (by kernel_rfl) (by exact fun _ _ _ h => h) (Or.inl ⟨by rfl, ?_⟩) (by assumption) ?_; rotate_left; focus ((intro w hSw; (try dsimp only at hSw); go_simp) <;> with_reducible rfl); (try simp only [Act.put, List.getElem_toArray, List.getElem_cons_succ, List.getElem_cons_zero, List.setIfInBounds_toArray, List.set_cons_zero, List.set_cons_succ]))
      (refine wpAnyH_take (i := 8) (oi := _) (v := ?_) (by (simp only [List.getElem?_toArray, List.getElem?_cons_succ, List.getElem?_cons_zero]); rfl) (by kernel_rfl) (by kernel_rfl) (by kernel_rfl) (by exact fun _ _ _ h => h) (Or.inl ⟨by rfl, ?_⟩) (by assumption) ?_; rotate_left; focus ((intro w hSw; (try dsimp only at hSw); go_simp) <;> with_reducible rfl); (try simp only [Act.put, List.getElem_toArray, List.getElem_cons_succ, List.getElem_cons_zero, List.setIfInBounds_toArray, List.set_cons_zero, List.set_cons_succ]))
      (refine wpAnyH_take (i := 9) (oi := _) (v := ?_) (by (simp only [List.getElem?_toArray, List.getElem?_cons_succ, List.getElem?_cons_zero]); rfl) (by kernel_rfl) (by kernel_rfl) (by kernel_rfl) (by exact fun _ _ _ h => h) (Or.inl ⟨by rfl, ?_⟩) (by assumption) ?_; rotate_left; focus ((intro w hSw; (try dsimp only at hSw); go_simp) <;> with_reducible rfl); (try simp only [Act.put, List.getElem_toArray, List.getElem_cons_succ, List.getElem_cons_zero, List.setIfInBounds_toArray, List.set_cons_zero, List.set_cons_succ]))
      (refine wpAnyH_take (i := 10) (oi := _) (v := ?_) (by (simp only [List.getElem?_toArray, List.getElem?_cons_succ, List.getElem?_cons_zero]); rfl) (by kernel_rfl) (by kernel_rfl) (by kernel_rfl) (by exact fun _ _ _ h => h) (Or.inl ⟨by rfl, ?_⟩) (by assumption) ?_; rotate_left; focus ((intro w hSw; (try dsimp only at hSw); go_simp) <;> with_reducible rfl); (try simp only [Act.put, List.getElem_toArray, List.getElem_cons_succ, List.getElem_cons_zero, List.setIfInBounds_toArray, List.set_cons_zero, List.set_cons_succ]))
      simp only [Act.put, List.setIfInBounds_toArray, List.set_cons_zero, List.set_cons_succ]
      refine wpAnyH_ready (rs := [11]) (by kernel_rfl) (by simp) ?_
      refine AllReadyH.cons rfl ?_ AllReadyH.nil
      intro KQ hKQ
      refine step_plain rfl (wp_app el8 (World.ownsRow.drew Q2.out) (A := A') (m := kk) (c := c') (news := (u8s x.2).take kk) ?_ ?_ ?_ ?_ _ _ rfl rfl rfl ?_)
      (exact (own_sl (World.ownsRow.drew P3.out) hk1).1)
      (exact fun z hz => u8s_one x.2 z (List.mem_of_mem_take hz))
      omega
      (exact Nat.zero_le _)
      intro v' w3 hown3 hg3 hob3 hnil3
      obtain ⟨A3, e3, rfl⟩ := own_shape hown3
      have bA := (Kp.grown hg3).heap (b := p) (by exact B1.out) (nb p (.inl rfl))
      have bB := (Kp.grown hg3).heap (b := f) (by exact B2.out) (nb f (.inr (.inl rfl)))
      have bC := (Kp.grown hg3).heap (b := wr.heap.size) (by exact B3.out) (nb _ (.inr (.inr rfl)))
      have cA := blk_cell bA
      have cB := blk_cell bB
      have cC := blk_cell bC
      have fA := blk_free bA
      have fB := blk_free bB
      have fC := blk_free bC
      unfold dcs at cA
      have HG := hid hg3
      have HO := hid hob3
      have HW := hid hown3
      have BA := hid bA
      have BB := hid bB
      have BC := hid bC
      clear hown3 hg3 hob3 hnil3 bA bB bC
      refine hKQ.out _ _ ⟨cB, cC⟩ (fun hHeld2 => ?_)
      clear hKQ KQ
      (try simp only [Act.put, List.setIfInBounds_toArray, List.set_cons_zero, List.set_cons_succ])
      (refine wpAnyH_take (i := 12) (oi := _) (v := ?_) (by (simp only [List.getElem?_toArray, List.getElem?_cons_succ, List.getElem?_cons_zero]); rfl) (by kernel_rfl) (by kernel_rfl) (by kernel_rfl) (by exact fun _ _ _ h => h) (Or.inl ⟨by rfl, ?_⟩) (by assumption) ?_; rotate_left; focus ((intro w hSw; (try dsimp only at hSw); go_simp) <;> with_reducible rfl); (try simp only [Act.put, List.getElem_toArray, List.getElem_cons_succ, List.getElem_cons_zero, List.setIfInBounds_toArray, List.set_cons_zero, List.set_cons_succ]))
      (refine wpAnyH_take (i := 13) (oi := _) (v := ?_) (by (simp only [List.getElem?_toArray, List.getElem?_cons_succ, List.getElem?_cons_zero]); rfl) (by kernel_rfl) (by kernel_rfl) (by kernel_rfl) (by exact fun _ _ _ h => h) (Or.inl ⟨by rfl, ?_⟩) (by assumption) ?_; rotate_left; focus ((intro w hSw; (try dsimp only at hSw); go_simp) <;> with_reducible rfl); (try simp only [Act.put, List.getElem_toArray, List.getElem_cons_succ, List.getElem_cons_zero, List.setIfInBounds_toArray, List.set_cons_zero, List.set_cons_succ]))
      simp only [Act.put, List.setIfInBounds_toArray, List.set_cons_zero, List.set_cons_succ]
      refine wpAnyH_done (by kernel_rfl) ?_ _
      unfold RegionLast.LastQ
      dsimp only
      go_wp2_with fail
      have b1 := blk_far BA.out (p := ⟨f, 0, none⟩) (Ne.symm hpf) (.slice A3 (ls + kk) e3)
      have b2 := blk_set BB.out 0 (.slice A3 (ls + kk) e3)
      have b3 := blk_far BC.out (p := ⟨f, 0, none⟩) (by simp; omega) (.slice A3 (ls + kk) e3)
      have kg : Kp (fun b => b ≠ p ∧ b ≠ f ∧ some b ≠ (Value.slice SA ls sc).ownBlock) wr (w3.setCell ⟨f, 0, none⟩ (.slice A3 (ls + kk) e3)) :=
        ((K2.out.mono (T := fun b => b ≠ p ∧ b ≠ f ∧ some b ≠ (Value.slice SA ls sc).ownBlock) fun b _ hb => hb.1).drew.trans ((Kp.grown HG.out).mono fun b _ hb => hb.2.2)).setOut (by simp) _
      have hw3 : wr.heap.size ≤ w2.heap.size := K2.out.size
      have ho4 := own_kept HW.out (w' := w3.setCell ⟨f, 0, none⟩ (.slice A3 (ls + kk) e3)) ((Kp.refl (fun b => b ≠ f) _).setOut (by simp) _) (fun b hb e => by
        rcases HO.out with h | h
        · rw [h] at hb; exact nb b (.inr (.inl e)) hb.symm
        · rw [h] at hb; injection hb with hb; rw [← e, ← hb] at hfs; exact absurd hfs (by simp; omega))
      obtain ⟨w4, hw4⟩ : ∃ w4, w4 = w3.setCell ⟨f, 0, none⟩ (.slice A3 (ls + kk) e3) := ⟨_, rfl⟩
      rw [← hw4] at b1 b2 b3 kg ho4 ⊢
      rw [show ((#[.slice SA ls sc, .int .i64 ((lb + mo : Nat) : Int)] : Array Value).setIfInBounds 0 (.slice A3 (ls + kk) e3)) = #[.slice A3 (ls + kk) e3, .int .i64 ((lb + mo : Nat) : Int)] from rfl] at b2
      clear c1 c2 cc3 f1 f2 f3 cA cB cC fA fB fC hw4 BA BB BC
      have B1 := hid b1; have B2 := hid b2; have B3 := hid b3; have KG := hid kg; have O4 := hid ho4
      have c1 := blk_cell b1; have c2 := blk_cell b2; have c3 := blk_cell b3
      have f1 := blk_free b1; have f2 := blk_free b2; have f3 := blk_free b3
      unfold dcs at c1
      clear b1 b2 b3 kg ho4
      go_wp2_with fail
      refine RegionLast.wp_region_end_quiet (by kernel_rfl) (by kernel_rfl) (by kernel_rfl) ?_; simp only [List.length_cons, List.length_nil, Nat.zero_add, Nat.reduceAdd, Nat.reduceSub, List.take_succ_cons, List.take_zero, List.drop_succ_cons, List.drop_zero]
      repeat (go_big_quiet_step (fail))
      refine wpQuiet_nil ?_; intro _ hw'; obtain ⟨nq, hw''⟩ := hw'; subst hw''
      go_wp2_with fail
      have b1 := blk_far (w := w4.drewN nq) (by exact B1.out) (p := ⟨f, 1, none⟩) (Ne.symm hpf) (.int .i64 ((lb : Int) + (mo : Int) - (lb : Int)))
      have b2 := blk_set (w := w4.drewN nq) (by exact B2.out) 1 (.int .i64 ((lb : Int) + (mo : Int) - (lb : Int)))
      have b3 := blk_far (w := w4.drewN nq) (by exact B3.out) (p := ⟨f, 1, none⟩) (by simp; omega) (.int .i64 ((lb : Int) + (mo : Int) - (lb : Int)))
      have kg : Kp (fun b => b ≠ p ∧ b ≠ f ∧ some b ≠ (Value.slice SA ls sc).ownBlock) wr ((w4.drewN nq).setCell ⟨f, 1, none⟩ (.int .i64 ((lb : Int) + (mo : Int) - (lb : Int)))) := (KG.out.drewN _).setOut (by simp) _
      have ho5 := own_kept O4.out (w' := (w4.drewN nq).setCell ⟨f, 1, none⟩ (.int .i64 ((lb : Int) + (mo : Int) - (lb : Int)))) (((Kp.refl (fun b => b ≠ f) _).drewN _).setOut (by simp) _) (fun b hb e => by
        rcases HO.out with h | h
        · rw [h] at hb; exact nb b (.inr (.inl e)) hb.symm
        · rw [h] at hb; injection hb with hb; rw [← e, ← hb] at hfs; exact absurd hfs (by simp; omega))
      obtain ⟨w5, hw5⟩ : ∃ w5, w5 = ((w4.drewN nq).setCell ⟨f, 1, none⟩ (.int .i64 ((lb : Int) + (mo : Int) - (lb : Int)))) := ⟨_, rfl⟩
      rw [← hw5] at b1 b2 b3 kg ho5 ⊢
      rw [show ((#[.slice A3 (ls + kk) e3, .int .i64 ((lb + mo : Nat) : Int)] : Array Value).setIfInBounds 1 (.int .i64 ((lb : Int) + (mo : Int) - (lb : Int)))) = #[.slice A3 (ls + kk) e3, .int .i64 (mo : Int)] from by rw [show (lb : Int) + (mo : Int) - (lb : Int) = (mo : Int) from by omega]; rfl] at b2
      clear c1 c2 c3 f1 f2 f3 hw5
      have B1 := hid b1; have B2 := hid b2; have B3 := hid b3; have KG := hid kg; have O5 := hid ho5
      have c1 := blk_cell b1; have c2 := blk_cell b2; have c3 := blk_cell b3
      have f1 := blk_free b1; have f2 := blk_free b2; have f3 := blk_free b3
      unfold dcs at c1
      clear b1 b2 b3 kg ho5
      have hnle : needs (ls + kk + mo) ≤ needs (ls + (lb + mo)) := by unfold needs; omega
      have hsz2 : ls + kk ≤ 1099511627776 := by omega
      have hsz3 : mo ≤ 1099511627776 := by omega
      go_wp2_with fail
      refine RegionLast.wp_region_end_quiet (by kernel_rfl) (by kernel_rfl) (by kernel_rfl) ?_; simp only [List.length_cons, List.length_nil, Nat.zero_add, Nat.reduceAdd, Nat.reduceSub, List.take_succ_cons, List.take_zero, List.drop_succ_cons, List.drop_zero]
      repeat (go_big_quiet_step ((first | (go_at_call 102; refine (size_any f A3 (ls + kk) e3 mo hsz2 hsz3 _ (by exact B2.out)).mono ?_; rintro e w1 ⟨rfl, q, rfl⟩; exact ⟨rfl, _, World.drewN_drewN _ _ _⟩) | (go_at_call 101; refine (needs_any _ (by omega) _).mono ?_; rintro e w2 ⟨rfl, rfl⟩; exact ⟨rfl, _, rfl⟩))))
      refine wpQuiet_nil ?_; intro _ hw'; obtain ⟨nq, hw''⟩ := hw'; subst hw''
      go_wp2_with fail
      have e1 : x.2.take n' = x.2.take kk := by rw [← hkk, ← hlb, Nat.min_comm, ← List.take_take, List.take_of_length_le (Nat.le_refl x.2.length)]
      have e2 : (s ++ x.2.take n').length = ls + kk := by rw [List.length_append, List.length_take, hls, hlb, Nat.min_comm, hkk]
      have e4 : u8s (s ++ x.2.take n') = u8s s ++ (u8s x.2).take kk := by rw [e1, u8s_append, u8s_take]
      have hu2 := HU.out
      have b1 := blk_set (w := w5.drewN nq) (b := p) (by exact B1.out) 1 (.int .i64 ((u : Int) - (needs (ls + (lb + mo)) : Nat) + (needs (ls + kk + mo) : Nat)))
      have b2 := blk_far (w := w5.drewN nq) (b := f) (by exact B2.out) (p := ⟨p, 1, none⟩) hpf (.int .i64 ((u : Int) - (needs (ls + (lb + mo)) : Nat) + (needs (ls + kk + mo) : Nat)))
      have hoF := own_kept O5.out (w' := (w5.drewN nq).setCell ⟨p, 1, none⟩ (.int .i64 ((u : Int) - (needs (ls + (lb + mo)) : Nat) + (needs (ls + kk + mo) : Nat)))) (((Kp.refl (fun b => b ≠ p) _).drewN _).setOut (by simp) _) (fun b hb e => by
        rcases HO.out with h | h
        · rw [h] at hb; exact nb b (.inl e) hb.symm
        · rw [h] at hb; injection hb with hb; rw [← e, ← hb] at hps; exact absurd hps (by simp; omega))
      obtain ⟨ro2, hfin⟩ := hst.out.next (c := x.2.take n') (sv := .slice SA ls sc) (v3 := .slice A3 (ls + kk) e3) (N := w2.heap.size) (wF := (w5.drewN nq).setCell ⟨p, 1, none⟩ (.int .i64 ((u : Int) - (needs (ls + (lb + mo)) : Nat) + (needs (ls + kk + mo) : Nat)))) hx hdrop hs hnd
        (fun b hb => by rw [hf]; exact q3 b (by rw [hls]; exact hb))
        (by rw [b1]; congr 2; rw [show ((u : Int) - (needs (ls + (lb + mo)) : Nat) + (needs (ls + kk + mo) : Nat)) = ((usedOf (addTo F x.1 (x.2.take n')) (D.B.drop (k + 1)) : Nat) : Int) from by omega]; rfl)
        (by rw [hf, hmo]; exact b2)
        (by rw [e2, e4]; exact hoF)
        HO.out hw3
        (by rw [hf]; exact (KG.out.drewN _).setOut (by simp) _)
        (by rw [hu1]; omega)
      refine ⟨⟨k + 1, n' - kk, _, ro2, by omega, by omega, by go_num, ?_, ?_, hfin⟩, by simp [intOf]; omega⟩
      · rw [show ((n' - kk : Nat) : Int) = (n' : Int) - (kk : Int) from by omega]
      · have := hset.out
        rw [hdrop, settleF, hlb, hkk] at this
        exact hid this
    · have hb0 : decide ((k : Int) < (l : Int)) = false := decide_eq_false (by omega)
      have c1 := blk_cell hst.out.cell
      have f1 := blk_free hst.out.cell
      have B1 := hid hst.out.cell
      unfold dcs at c1
      have : k = l := by omega
      subst this
      go_wp2_with fail
      go_end0
      have hdl : D.B.drop k = [] := List.drop_eq_nil_of_le (by rw [HL.out]; exact Nat.le_refl _)
      have hS := hst.out
      have hF : F = settleF D.F D.B n := by have := hset.out; rw [hdl, settleF] at this; exact this
      have b1 := blk_set B1.out 3 (.slice none 0 0)
      have k1 : Kp (fun b => b ≠ p) wr (wr.setCell ⟨p, 3, none⟩ (.slice none 0 0)) := (Kp.refl _ _).setOut (by simp) _
      have h1 := hS.cell; have h2 := hS.map; have h3 := hS.fl; have h5 := hS.us
      rw [hdl] at h3 h5 b1
      rw [hF] at h3 h5 b1
      have hk := hS.keys
      rw [hF] at hk
      refine ⟨rfl, ro', ⟨m, fp, .slice none 0 0, [], ?_, ?_, ?_, ⟨rfl, World.ownsRow_nil _ _ _ _, by simp [Value.ownBlock], by simp, by simp [blks]⟩, hS.rp, hS.rm, ?_, by simp [DS.settle], H.out.bl, H.out.kw, ?_⟩, hS.ext, ?_⟩
      · exact b1
      · show SMap _ m ((settleF D.F D.B n).map fun x => (x.1, _))
        rw [map_keys hk (fun x => Value.pointer (some ⟨fp x, 0, none⟩))]
        exact h2.kept k1 (fun e => by have := hS.rm; rw [e, hS.rp] at this; cases this)
      · exact h3.kept k1 (fun b hb e => by rw [e, hS.rp] at hb; rcases hb with e | ⟨f, e⟩ <;> cases e)
      · intro b hb
        simpa using hS.lt b hb
      · have := H.out.us
        show ((usedOf (settleF D.F D.B n) [] : Nat) : Int) ≤ D.blocks
        omega
      · exact hS.kp.then k1 (fun b hb hn e => by have := hS.ext b hb hn; rw [e, hS.rp] at this; cases this)
end Go.Proofs.YtbkhademplgicaaGreatDoor

namespace Go.Proofs.YtbkhademplgicaaGreatDoor
open Go.RowKit
set_option linter.unusedVariables false
theorem Nx.trans {w w1 w2 : World} {ro : Nat → Role} {p : Nat} {D' : DS} (h : ∃ ro1, (∀ b, b < w.heap.size → ro b = .none → ro1 b = .none) ∧ Kp (fun b => ro b = .none) w w1 ∧ Nx w1 ro1 p D' w2) : Nx w ro p D' w2 := by
  obtain ⟨ro1, h1, h2, ro2, h3, h4, h5⟩ := h
  exact ⟨ro2, h3, fun b hb hn => h4 b (Nat.lt_of_lt_of_le hb h2.size) (h1 b hb hn), h2.then h5 h1⟩

theorem ndisk {ro : Nat → Role} {p : Nat} (h : ro p = .disk) : ∀ b, ro b = .none → b ≠ p := fun b hb e => by rw [e, h] at hb; cases hb

set_option maxRecDepth 100000 in
theorem crash_any (p : Nat) (ro : Nat → Role) (D : DS) (keep : Int) (hk : keep ≤ 9223372036854775807) (w : World) (h : Dk w p ro D) :
    Calls Tryz.prog 25 #[.pointer (some ⟨p, 0, none⟩), .int .i64 keep] w fun e w' => e = .returned (.tuple #[]) ∧ Nx w ro p (D.crash keep) w' := by
  have HD := hid h
  obtain ⟨m, fp, bv, BV, h⟩ := h
  have H := hid h
  clear h
  have hmx := fun w => run_max2 (P := Tryz.prog) w 3 3 .i64 keep 0
  obtain ⟨n, hn⟩ : ∃ n, keep.toNat = n := ⟨_, rfl⟩
  have hn1 : n ≤ 9223372036854775807 := by omega
  rw [show max keep 0 = (n : Int) from by omega] at hmx
  have hD : D.crash keep = { D.settle n with off := true } := by rw [DS.crash, hn]
  rw [hD]
  clear hn hD
  go_enter Tryz.func25, Tryz.ntmps25
  go_wp2_with fail
  refine (dmade_yes p m D _ bv w H.out.cell).mono ?_
  rintro e w1 ⟨rfl, rfl⟩
  go_wp2_with fail
  refine (settle_any p ro D n hn1 w HD.out).mono ?_
  rintro e w1 ⟨rfl, ro1, ⟨m1, fp1, bv1, BV1, h1⟩, h2, h3⟩
  have c1 := blk_cell h1.cell
  have f1 := blk_free h1.cell
  have B1 := hid h1.cell
  have H1 := hid h1; have H2 := hid h2; have H3 := hid h3
  unfold dcs at c1
  clear h1 h2 h3
  go_wp2_with fail
  go_end0
  have b2 := blk_set B1.out 4 (.bool true)
  have k1 : Kp (fun b => b ≠ p) w1 (w1.setCell ⟨p, 4, none⟩ (.bool true)) := (Kp.refl _ _).setOut (by simp) _
  refine ⟨rfl, Nx.trans ⟨ro1, H2.out, H3.out, Nx.of ⟨m1, fp1, bv1, BV1, H1.out.cellset (D' := { D.settle n with off := true }) k1 b2 rfl rfl rfl H1.out.kw⟩ k1 ?_⟩⟩
  intro b hb e
  rw [e, H1.out.rp] at hb
  cases hb

def DS.begun (D : DS) : DS := if D.fails < 1 then { D with ops := D.ops + 1 } else if D.fails = 1 then DS.crash { D with ops := D.ops + 1, fails := 0 } D.keep else { D with ops := D.ops + 1, fails := D.fails - 1 }
def DS.fit (D : DS) : Bool := decide (D.fails ≠ 1)

def Begun (w : World) (ro : Nat → Role) (p : Nat) (D : DS) (m : Nat) (fp : Nm → Nat) (bv : Value) (BV : List (Nm × By × Value)) (e : Ending) (w' : World) : Prop :=
  e = .returned (.bool D.fit) ∧ (D.fit = true → Dk0 w' p ro D.begun m fp bv BV ∧ Kp (fun b => b ≠ p) w w') ∧ (D.fit = false → Nx w ro p D.begun w')

set_option maxRecDepth 100000 in
theorem begin_any (p : Nat) (ro : Nat → Role) (D : DS) (ho0 : 0 ≤ D.ops) (ho : D.ops ≤ 4611686018427387904) (hf : D.fails ≤ 9223372036854775807) (w : World) (m : Nat) (fp : Nm → Nat) (bv : Value) (BV : List (Nm × By × Value)) (h : Dk0 w p ro D m fp bv BV) :
    Calls Tryz.prog 139 #[.pointer (some ⟨p, 0, none⟩)] w (Begun w ro p D m fp bv BV) := by
  have H := hid h
  have c1 := blk_cell h.cell
  have f1 := blk_free h.cell
  have B1 := hid h.cell
  have hp := blk_lt h.cell
  obtain ⟨x, hx⟩ : ∃ x, D.fails = x := ⟨_, rfl⟩
  obtain ⟨y, hy⟩ : ∃ y, D.ops = y := ⟨_, rfl⟩
  have HX := hid hx
  have HY := hid hy
  unfold dcs at c1
  rw [hx, hy] at c1
  rw [hx] at hf
  rw [hy] at ho0 ho
  clear h hx hy
  by_cases h1 : x < 1
  · have hd1 : decide (x < 1) = true := decide_eq_true h1
    have hfit : D.fit = true := by rw [DS.fit, HX.out]; exact decide_eq_true (by omega)
    have hbeg : D.begun = { D with ops := y + 1 } := by rw [DS.begun, HX.out, HY.out, if_pos h1]
    have HFT := hid hfit; have HBG := hid hbeg
    clear hfit hbeg
    go_enter Tryz.func139, Tryz.ntmps139
    go_wp2_with fail
    go_ret
    have k1 : Kp (fun b => b ≠ p) w (w.setCell ⟨p, 5, none⟩ (.int .i64 (y + 1))) := (Kp.refl _ _).setOut (by simp) _
    exact ⟨by rw [HFT.out]; rfl, fun _ => ⟨by rw [HBG.out]; exact H.out.cellset k1 (blk_set B1.out 5 _) rfl rfl rfl H.out.kw, k1⟩, (fun h => by rw [HFT.out] at h; cases h)⟩
  · have hd1 : decide (x < 1) = false := decide_eq_false h1
    by_cases h2 : x = 1
    · subst h2
      have hfit : D.fit = false := by rw [DS.fit, HX.out]; rfl
      have hbeg : D.begun = DS.crash { D with ops := y + 1, fails := 0 } D.keep := by rw [DS.begun, HX.out, HY.out, if_neg h1, if_pos rfl]
      have HFT := hid hfit; have HBG := hid hbeg
      clear hfit hbeg
      have k1 : Kp (fun b => b ≠ p) w ((w.setCell ⟨p, 5, none⟩ (.int .i64 (y + 1))).setCell ⟨p, 6, none⟩ (.int .i64 0)) := ((Kp.refl _ _).setOut (by simp) _).setOut (by simp) _
      have hd := H.out.cellset (D' := { D with ops := y + 1, fails := 0 }) k1 (blk_set (blk_set B1.out 5 _) 6 _) rfl rfl rfl H.out.kw
      have HD := hid hd
      have HK1 := hid k1
      have hkw := H.out.kw
      clear hd k1
      go_enter Tryz.func139, Tryz.ntmps139
      go_wp2_with fail
      refine (crash_any p ro _ D.keep hkw _ (by exact ⟨m, fp, bv, BV, HD.out⟩)).mono ?_
      rintro e w1 ⟨rfl, h1⟩
      have H1 := hid h1
      clear h1
      go_wp2_with fail
      go_ret
      exact ⟨by rw [HFT.out]; rfl, (fun h => by rw [HFT.out] at h; cases h), fun _ => by rw [HBG.out]; exact Nx.trans ⟨ro, fun _ _ h => h, HK1.out.mono (fun b _ hb => ndisk H.out.rp b hb), H1.out⟩⟩
    · have hd2 : decide (x - 1 = 0) = false := decide_eq_false (by omega)
      have hfit : D.fit = true := by rw [DS.fit, HX.out]; exact decide_eq_true h2
      have hbeg : D.begun = { D with ops := y + 1, fails := x - 1 } := by rw [DS.begun, HX.out, HY.out, if_neg h1, if_neg h2]
      have HFT := hid hfit; have HBG := hid hbeg
      clear hfit hbeg
      go_enter Tryz.func139, Tryz.ntmps139
      go_wp2_with fail
      go_ret
      have k1 : Kp (fun b => b ≠ p) w ((w.setCell ⟨p, 5, none⟩ (.int .i64 (y + 1))).setCell ⟨p, 6, none⟩ (.int .i64 (x - 1))) := ((Kp.refl _ _).setOut (by simp) _).setOut (by simp) _
      exact ⟨by rw [HFT.out]; rfl, fun _ => ⟨by rw [HBG.out]; exact H.out.cellset k1 (blk_set (blk_set B1.out 5 _) 6 _) rfl rfl rfl H.out.kw, k1⟩, (fun h => by rw [HFT.out] at h; cases h)⟩
end Go.Proofs.YtbkhademplgicaaGreatDoor

namespace Go.Proofs.YtbkhademplgicaaGreatDoor
open Go.RowKit
set_option linter.unusedVariables false

def Does (w : World) (ro : Nat → Role) (p : Nat) (D : DS) (R : Ending → World → Prop) (e : Ending) (w' : World) : Prop :=
  (D.fit = false → e = .returned (.int .i64 9) ∧ Nx w ro p D.begun w') ∧ (D.fit = true → R e w')

set_option maxRecDepth 100000 in
theorem does_any (p : Nat) (ro : Nat → Role) (D : DS) (ho0 : 0 ≤ D.ops) (ho : D.ops ≤ 4611686018427387904) (hf : D.fails ≤ 9223372036854775807) (w : World) (m : Nat) (fp : Nm → Nat) (bv : Value) (BV : List (Nm × By × Value)) (h : Dk0 w p ro D m fp bv BV)
    (k : Nat) (caps : Array Value) (hE : Enters Tryz.prog k) (R : Ending → World → Prop) (hR : ∀ e w', R e w' → ∃ n, e = .returned (.int .i64 n))
    (hc : D.fit = true → ∀ w1, Dk0 w1 p ro D.begun m fp bv BV → Kp (fun b => b ≠ p) w w1 → Calls Tryz.prog k caps w1 R) :
    Calls Tryz.prog 97 #[.pointer (some ⟨p, 0, none⟩), .func (.func k) #[] caps] w (Does w ro p D R) := by
  have H := hid h
  have HC := hid hc
  have e1 : ∀ args w, (callFunc k args).run Tryz.prog w = .ok (.enter k args) w := hE
  have HR := hid hR
  obtain ⟨b, hb⟩ : ∃ b, D.fit = b := ⟨_, rfl⟩
  have HB := hid hb
  clear h hc hR
  cases b
  · go_enter Tryz.func97, Tryz.ntmps97
    go_wp2_with fail
    refine (begin_any p ro D ho0 ho hf w m fp bv BV H.out).mono ?_
    rintro e w1 ⟨rfl, h1, h1'⟩
    have H1 := hid h1; have H1' := hid h1'
    clear h1 h1'
    rw [hb]
    clear hb
    go_wp2_with fail
    go_ret
    exact ⟨fun _ => ⟨rfl, H1'.out HB.out⟩, fun h => by rw [HB.out] at h; cases h⟩
  · go_enter Tryz.func97, Tryz.ntmps97
    go_wp2_with fail
    refine (begin_any p ro D ho0 ho hf w m fp bv BV H.out).mono ?_
    rintro e w1 ⟨rfl, h1, h1'⟩
    have H1 := hid h1; have H1' := hid h1'
    clear h1 h1'
    rw [hb]
    clear hb
    go_wp2_with (go_at_fn k; refine (HC.out HB.out w1 (H1.out HB.out).1 (H1.out HB.out).2).mono ?_; intro e w2 hr; obtain ⟨n, rfl⟩ := HR.out _ _ hr; have HRR := hid hr; clear hr)
    go_ret
    exact ⟨(fun h => by rw [HB.out] at h; cases h), fun _ => HRR.out⟩
end Go.Proofs.YtbkhademplgicaaGreatDoor

namespace Go.Proofs.YtbkhademplgicaaGreatDoor
open Go.RowKit
set_option linter.unusedVariables false
theorem moreOf_push (B : List (Nm × By)) (n k : Nm) (b : By) : moreOf (B ++ [(n, b)]) k = moreOf B k + if n = k then b.length else 0 := by
  induction B with
  | nil => simp [moreOf]
  | cons x l ih =>
    simp only [List.cons_append, moreOf, ih]
    omega
theorem used_push_none {F B : List (Nm × By)} {n : Nm} (h : n ∉ F.map (·.1)) (b : By) : usedOf F (B ++ [(n, b)]) = usedOf F B := by
  unfold usedOf
  congr 1
  apply List.map_congr_left
  intro y hy
  rw [moreOf_push, if_neg (fun e => h (List.mem_map.2 ⟨y, hy, e.symm⟩)), Nat.add_zero]
theorem used_push {F B : List (Nm × By)} {n : Nm} {s b : By} (hn : (F.map (·.1)).Nodup) (h : (n, s) ∈ F) :
    usedOf F (B ++ [(n, b)]) + needs (s.length + moreOf B n) = usedOf F B + needs (s.length + moreOf B n + b.length) := by
  induction F with
  | nil => cases h
  | cons y l ih =>
    simp only [List.map_cons, List.nodup_cons] at hn
    cases h with
    | head =>
      have e2 := used_push_none (B := B) hn.1 b
      simp only [usedOf, List.map_cons, List.sum_cons] at e2 ⊢
      rw [e2, moreOf_push, if_pos rfl]
      simp only [Nat.add_assoc]
      omega
    | tail _ h =>
      have ih := ih hn.2 h
      have hne : n ≠ y.1 := fun e => hn.1 (e ▸ List.mem_map.2 ⟨_, h, rfl⟩)
      have e3 : moreOf (B ++ [(n, b)]) y.1 = moreOf B y.1 := by rw [moreOf_push, if_neg hne, Nat.add_zero]
      simp only [usedOf, List.map_cons, List.sum_cons, e3] at ih ⊢
      omega

/-- n more blocks for l more bytes -/
def grow (D : DS) (n : Nm) (s : By) (l : Nat) : Nat := needs (s.length + moreOf D.B n + l) - needs (s.length + moreOf D.B n)
def DS.push (D : DS) (n : Nm) (b : By) : DS := { D with B := D.B ++ [(n, b)] }
def AppPost (w : World) (ro : Nat → Role) (p : Nat) (D : DS) (n : Nm) (s b : By) (e : Ending) (w' : World) : Prop :=
  if D.blocks - (usedOf D.F D.B : Int) < (grow D n s b.length : Int) then e = .returned (.int .i64 7) ∧ Nx w ro p D w' else e = .returned (.int .i64 0) ∧ Nx w ro p (D.push n b) w'


theorem wcs_push (fp : Nm → Nat) (BV : List (Nm × By × Value)) (x : Nm × By × Value) : wcs fp (BV ++ [x]) = wcs fp BV ++ [.pointer (some ⟨fp x.1, 0, none⟩), x.2.2] := by
  simp [wcs]
theorem Dk0.pushed {w wF : World} {p : Nat} {ro : Nat → Role} {D : DS} {m : Nat} {fp : Nm → Nat} {bv : Value} {BV : List (Nm × By × Value)} (h : Dk0 w p ro D m fp bv BV) {n : Nm} {s b : By} {sv v4 dv : Value} {N : Nat} (hs : (n, s) ∈ D.F)
    (hsv : w.ownsRow 0 5 1 sv s.length (u8s s)) (hsb : ∀ z, sv.ownBlock = some z → ro z = .sure (fp n))
    (hcell : wF.heap[p]? = some (.cells (dcs D (usedOf D.F (D.B ++ [(n, b)])) m v4) 91 (0, 0)))
    (hfile : wF.heap[fp n]? = some (.cells #[sv, .int .i64 (moreOf D.B n + b.length : Nat)] 129 (0, 0)))
    (hrow : wF.ownsRow 0 133 2 v4 (D.B.length + 1) (wcs fp BV ++ [.pointer (some ⟨fp n, 0, none⟩), dv]))
    (hob : v4.ownBlock = bv.ownBlock ∨ v4.ownBlock = some N) (hN : w.heap.size ≤ N)
    (hdv : wF.ownsRow 0 5 1 dv b.length (u8s b)) (hdb : ∀ z, dv.ownBlock = some z → w.heap.size ≤ z ∧ v4.ownBlock ≠ some z)
    (kp : Kp (fun z => z ≠ p ∧ z ≠ fp n ∧ some z ≠ bv.ownBlock) w wF) (hus : (usedOf D.F (D.B ++ [(n, b)]) : Int) ≤ D.blocks) : Nx w ro p (D.push n b) wF := by
  have hnd : (D.F.map (·.1)).Nodup := by
    have := h.map.nodup strKey
    simpa [List.map_map, Function.comp_def] using this
  have hf := h.fl.role _ hs
  simp only at hf
  have hold : ∀ z, ro z ≠ .buf → z < w.heap.size → some z ≠ v4.ownBlock := by
    intro z hz hlt e
    rcases hob with h1 | h1
    · rw [h1] at e
      exact hz (h.bf.role z e.symm)
    · rw [h1] at e
      injection e with e
      omega
  have hold2 : ∀ z, z < w.heap.size → some z ≠ dv.ownBlock := fun z hz e => by have := (hdb z e.symm).1; omega
  have hro : ∀ z, ro z ≠ .none → (if some z = v4.ownBlock then Role.buf else if some z = dv.ownBlock then .data else ro z) = ro z := by
    intro z hz
    have hlt := h.lt z hz
    rw [if_neg (hold2 z hlt)]
    by_cases e : ro z = .buf
    · rw [e]; split <;> rfl
    · rw [if_neg (hold z e hlt)]
  have hkeep : ∀ z, ro z ≠ .none → ro z ≠ .disk → ro z ≠ .buf → z ≠ fp n → z ≠ p ∧ z ≠ fp n ∧ some z ≠ bv.ownBlock := fun z _ h2 h3 h4 => ⟨fun e => h2 (e ▸ h.rp), h4, fun e => h3 (h.bf.role z e.symm)⟩
  refine ⟨fun z => if some z = v4.ownBlock then .buf else if some z = dv.ownBlock then .data else ro z, ⟨m, fp, v4, BV ++ [(n, b, dv)], hcell, ?_, ⟨?_, ?_, ?_⟩, ⟨?_, ?_, ?_, ?_, ?_⟩, ?_, ?_, ?_, ?_, h.bl, h.kw, hus⟩, ?_, ?_⟩
  · exact h.map.kept kp (hkeep m (by rw [h.rm]; decide) (by rw [h.rm]; decide) (by rw [h.rm]; simp) (fun e => by rw [← e, h.rm] at hf; cases hf))
  · intro z hz
    by_cases e : z.1 = n
    · have : z.2 = s := key_one hnd (n := n) (by rw [← e]; exact hz) hs
      obtain ⟨z1, z2⟩ := z
      simp only at e this
      subst e this
      refine ⟨sv, ?_, own_kept hsv kp fun b hb => ?_, fun b hb => ?_⟩
      · show _ = some (Obj.cells #[sv, .int .i64 (moreOf (D.B ++ [(z1, b)]) z1 : Nat)] _ _)
        rw [moreOf_push, if_pos rfl]
        exact hfile
      · have h4 := hsb b hb
        exact hkeep b (by rw [h4]; simp) (by rw [h4]; simp) (by rw [h4]; simp) (fun e2 => by rw [e2, hf] at h4; cases h4)
      · have h4 := hsb b hb
        rw [hro b (by rw [h4]; simp)]
        exact h4
    · obtain ⟨v, h1, h2, h3⟩ := h.fl.lie z hz
      have hne : fp z.1 ≠ fp n := fun e2 => e (h.fl.inj z hz _ hs e2)
      have hzr := h.fl.role z hz
      refine ⟨v, ?_, own_kept h2 kp fun b hb => ?_, fun b hb => ?_⟩
      · have := kp.heap h1 (hkeep _ (by rw [hzr]; decide) (by rw [hzr]; decide) (by rw [hzr]; simp) hne)
        rw [this]
        show some (Obj.cells #[v, .int .i64 (moreOf D.B z.1 : Nat)] _ _) = some (Obj.cells #[v, .int .i64 (moreOf (D.B ++ [(n, _)]) z.1 : Nat)] _ _)
        rw [moreOf_push, if_neg (Ne.symm e), Nat.add_zero]
      · have h4 := h3 b hb
        exact hkeep b (by rw [h4]; simp) (by rw [h4]; simp) (by rw [h4]; simp) (fun e2 => by rw [e2, hf] at h4; cases h4)
      · have h4 := h3 b hb
        rw [hro b (by rw [h4]; simp)]
        exact h4
  · intro z hz
    have hzr := h.fl.role z hz
    rw [hro _ (by rw [hzr]; decide)]
    exact hzr
  · exact h.fl.inj
  · show D.B ++ [(n, b)] = _
    rw [List.map_append, ← h.bf.eq]
    rfl
  · show wF.ownsRow 0 133 2 v4 (D.B ++ [(n, b)]).length _
    rw [wcs_push, List.length_append]
    exact hrow
  · intro z hz
    exact if_pos hz.symm
  · intro y hy
    rcases List.mem_append.1 hy with hy | hy
    · obtain ⟨h1, h2⟩ := h.bf.data y hy
      refine ⟨own_kept h1 kp fun b hb => ?_, fun b hb => ?_⟩
      · have h4 := h2 b hb
        exact hkeep b (by rw [h4]; simp) (by rw [h4]; simp) (by rw [h4]; simp) (fun e2 => by rw [e2, hf] at h4; cases h4)
      · have h4 := h2 b hb
        rw [hro b (by rw [h4]; simp)]
        exact h4
    · simp only [List.mem_singleton] at hy
      subst hy
      refine ⟨hdv, fun z hz => ?_⟩
      show (if some z = v4.ownBlock then Role.buf else if some z = dv.ownBlock then .data else ro z) = .data
      rw [if_neg (fun e => (hdb z hz).2 e.symm), if_pos hz.symm]
  · unfold blks
    rw [List.filterMap_append, List.nodup_append]
    refine ⟨h.bf.one, ?_, fun a ha c hc e => ?_⟩
    · simp only [List.filterMap_cons, List.filterMap_nil]
      split <;> simp
    · obtain ⟨y, hy, hye⟩ := List.mem_filterMap.1 ha
      have h5 := (h.bf.data y hy).2 a hye
      have h6 := h.lt a (by rw [h5]; simp)
      have h7 : dv.ownBlock = some c := by
        obtain ⟨y', hy', hye'⟩ := List.mem_filterMap.1 hc
        simp only [List.mem_singleton] at hy'
        subst hy'
        exact hye'
      have := (hdb c h7).1
      omega
  · rw [hro p (by rw [h.rp]; simp)]; exact h.rp
  · rw [hro m (by rw [h.rm]; simp)]; exact h.rm
  · intro z hz
    split at hz
    · rename_i e; exact (hrow.lt z e.symm).2
    · split at hz
      · rename_i e; exact (hdv.lt z e.symm).2
      · exact Nat.lt_of_lt_of_le (h.lt z hz) kp.size
  · intro x hx
    rcases List.mem_append.1 hx with hx | hx
    · exact h.names x hx
    · simp only [List.mem_singleton] at hx
      subst hx
      exact List.mem_map.2 ⟨_, hs, rfl⟩
  · intro z hz hn
    show (if some z = v4.ownBlock then Role.buf else if some z = dv.ownBlock then .data else ro z) = .none
    rw [if_neg (hold z (by rw [hn]; simp) hz), if_neg (hold2 z hz)]
    exact hn
  · exact kp.mono fun z _ hz => ⟨(fun e => by rw [e, h.rp] at hz; cases hz), (fun e => by rw [e, hf] at hz; cases hz), (fun e => by rw [h.bf.role z e.symm] at hz; cases hz)⟩
end Go.Proofs.YtbkhademplgicaaGreatDoor
