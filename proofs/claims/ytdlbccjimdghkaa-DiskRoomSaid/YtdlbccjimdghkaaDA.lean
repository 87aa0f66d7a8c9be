/- The disk: what a disk is in memory (Dk), its plain state (DS), and the small functions, walked once each. No condition on the disk but that it lies as Dk says. -/
import Derived.Test.YtdlbccjimdghkaaK0
namespace Go.Proofs.Ytdlbccjimdghkaa
open Go.RowKit
set_option linter.unusedVariables false
theorem strKey : KeyEnc Try.prog 9 .string (fun k : ByteArray => Value.string k) := ⟨Try.underlying9, fun _ => trivial, fun _ _ h => by injection h⟩
abbrev SMap := KMap (fun k : ByteArray => Value.string k)
theorem el8 : El Try.prog 32 5 1 1 (.int .u8 0) := ⟨Try.underlying32, by kernel_rfl, rfl, by decide, by decide⟩
theorem elw : El Try.prog 55 67 2 32 (.agg #[.pointer none, .slice none 0 0]) := ⟨Try.underlying55, by kernel_rfl, rfl, by decide, by decide⟩

abbrev Nm := ByteArray
abbrev By := List UInt8
def u8s (l : By) : List Value := l.map fun x => .int .u8 x.toNat
theorem u8s_one (l : By) : ∀ u ∈ u8s l, u.oneCell' = true := by
  intro u hu
  obtain ⟨x, _, rfl⟩ := List.mem_map.1 hu
  rfl
@[simp] theorem u8s_len (l : By) : (u8s l).length = l.length := by simp [u8s]
theorem u8s_append (a b : By) : u8s (a ++ b) = u8s a ++ u8s b := by simp [u8s]
theorem u8s_take (a : By) (n : Nat) : u8s (a.take n) = (u8s a).take n := by simp [u8s, List.map_take]

/-! ### The plain state -/
def needs (n : Nat) : Nat := n / 64 + 1
def moreOf : List (Nm × By) → Nm → Nat
  | [], _ => 0
  | x :: l, n => (if x.1 = n then x.2.length else 0) + moreOf l n
def usedOf (F B : List (Nm × By)) : Nat := (F.map fun x => needs (x.2.length + moreOf B x.1)).sum
def pend (B : List (Nm × By)) : Nat := (B.map fun x => x.2.length).sum
structure DS where
  blocks : Int
  off : Bool
  ops : Int
  fails : Int
  keep : Int
  F : List (Nm × By)
  B : List (Nm × By)
def addTo (F : List (Nm × By)) (n : Nm) (b : By) : List (Nm × By) := F.map fun y => if y.1 = n then (y.1, y.2 ++ b) else y
def settleF : List (Nm × By) → List (Nm × By) → Nat → List (Nm × By)
  | F, [], _ => F
  | F, x :: r, n => settleF (addTo F x.1 (x.2.take n)) r (n - min x.2.length n)
def DS.settle (D : DS) (n : Nat) : DS := { D with F := settleF D.F D.B n, B := [] }
def DS.crash (D : DS) (keep : Int) : DS := { D.settle keep.toNat with off := true }
def DS.gone (D : DS) (n : Nm) : DS := { D with F := adel D.F n, B := adel D.B n }

theorem mem_moreOf_le {B : List (Nm × By)} {n : Nm} : moreOf B n ≤ pend B := by
  induction B with
  | nil => simp [moreOf, pend]
  | cons x l ih =>
    simp only [moreOf, pend, List.map_cons, List.sum_cons] at ih ⊢
    split <;> omega
theorem le_usedOf {F B : List (Nm × By)} {x : Nm × By} (h : x ∈ F) : needs (x.2.length + moreOf B x.1) ≤ usedOf F B := by
  induction F with
  | nil => cases h
  | cons y l ih =>
    simp only [usedOf, List.map_cons, List.sum_cons] at ih ⊢
    cases h with
    | head => omega
    | tail _ h => have := ih h; omega

/-! ### Where it lies -/
inductive Role where
  | none | disk | map | buf | file | sure (f : Nat) | data
  deriving DecidableEq
structure Fl (w : World) (ro : Nat → Role) (fp : Nm → Nat) (F rest : List (Nm × By)) : Prop where
  lie : ∀ x ∈ F, ∃ v, w.heap[fp x.1]? = some (.cells #[v, .int .i64 (moreOf rest x.1)] 65 (0, 0)) ∧ w.ownsRow 0 5 1 v x.2.length (u8s x.2) ∧ (∀ b, v.ownBlock = some b → ro b = .sure (fp x.1))
  role : ∀ x ∈ F, ro (fp x.1) = .file
  inj : ∀ x ∈ F, ∀ y ∈ F, fp x.1 = fp y.1 → x.1 = y.1
/-- the cells of the buffer -/
def wcs (fp : Nm → Nat) (BV : List (Nm × By × Value)) : List Value := BV.flatMap fun x => [.pointer (some ⟨fp x.1, 0, Option.none⟩), x.2.2]
structure Bf (w : World) (ro : Nat → Role) (fp : Nm → Nat) (B : List (Nm × By)) (bv : Value) (BV : List (Nm × By × Value)) : Prop where
  eq : B = BV.map fun x => (x.1, x.2.1)
  row : w.ownsRow 0 67 2 bv B.length (wcs fp BV)
  role : ∀ b, bv.ownBlock = some b → ro b = .buf
  data : ∀ x ∈ BV, w.ownsRow 0 5 1 x.2.2 x.2.1.length (u8s x.2.1) ∧ ∀ b, x.2.2.ownBlock = some b → ro b = .data
def dcs (D : DS) (u : Int) (m : Nat) (bv : Value) : Array Value := #[.int .i64 D.blocks, .int .i64 u, .map (some m), bv, .bool D.off, .int .i64 D.ops, .int .i64 D.fails, .int .i64 D.keep]
structure Dk0 (w : World) (p : Nat) (ro : Nat → Role) (D : DS) (m : Nat) (fp : Nm → Nat) (bv : Value) (BV : List (Nm × By × Value)) : Prop where
  cell : w.heap[p]? = some (.cells (dcs D (usedOf D.F D.B) m bv) 57 (0, 0))
  map : SMap w m (D.F.map fun x => (x.1, .pointer (some ⟨fp x.1, 0, Option.none⟩)))
  fl : Fl w ro fp D.F D.B
  bf : Bf w ro fp D.B bv BV
  rp : ro p = .disk
  rm : ro m = .map
  lt : ∀ b, ro b ≠ .none → b < w.heap.size
  names : ∀ x ∈ D.B, x.1 ∈ D.F.map (·.1)
  bl : D.blocks ≤ 16777216
  kw : D.keep ≤ 9223372036854775807
  us : (usedOf D.F D.B : Int) ≤ D.blocks
def Dk (w : World) (p : Nat) (ro : Nat → Role) (D : DS) : Prop := ∃ m fp bv BV, Dk0 w p ro D m fp bv BV
/-- D' lies behind a step from w; what was no block of the disk is none, and is kept. -/
def Nx (w : World) (ro : Nat → Role) (p : Nat) (D' : DS) (w' : World) : Prop :=
  ∃ ro', Dk w' p ro' D' ∧ (∀ b, b < w.heap.size → ro b = .none → ro' b = .none) ∧ Kp (fun b => ro b = .none) w w'

theorem own_kept {S : Nat → Prop} {w w' : World} {base e sz n : Nat} {v : Value} {xs : List Value} (h : w.ownsRow base e sz v n xs) (k : Kp S w w') (hs : ∀ b, v.ownBlock = some b → S b) : w'.ownsRow base e sz v n xs := by
  refine ⟨h.1, ?_⟩
  rcases h.2 with hn | ⟨g, cap, cur, rfl, hb, hg, rest⟩
  · exact .inl hn
  · exact .inr ⟨g, cap, cur, rfl, hb, k.heap hg (hs g rfl), rest⟩

theorem Fl.kept {S : Nat → Prop} {w w' : World} {ro : Nat → Role} {fp : Nm → Nat} {F rest : List (Nm × By)} (h : Fl w ro fp F rest) (k : Kp S w w') (hs : ∀ b, (ro b = .file ∨ ∃ f, ro b = .sure f) → S b) : Fl w' ro fp F rest where
  lie := fun x hx => by
    obtain ⟨v, h1, h2, h3⟩ := h.lie x hx
    exact ⟨v, k.heap h1 (hs _ (.inl (h.role x hx))), own_kept h2 k (fun b hb => hs b (.inr ⟨_, h3 b hb⟩)), h3⟩
  role := h.role
  inj := h.inj
theorem Bf.kept {S : Nat → Prop} {w w' : World} {ro : Nat → Role} {fp : Nm → Nat} {B : List (Nm × By)} {bv : Value} {BV : List (Nm × By × Value)} (h : Bf w ro fp B bv BV) (k : Kp S w w') (hs : ∀ b, (ro b = .buf ∨ ro b = .data) → S b) : Bf w' ro fp B bv BV where
  eq := h.eq
  row := own_kept h.row k (fun b hb => hs b (.inl (h.role b hb)))
  role := h.role
  data := fun x hx => ⟨own_kept (h.data x hx).1 k (fun b hb => hs b (.inr ((h.data x hx).2 b hb))), (h.data x hx).2⟩
theorem Dk0.kept {S : Nat → Prop} {w w' : World} {p : Nat} {ro : Nat → Role} {D : DS} {m : Nat} {fp : Nm → Nat} {bv : Value} {BV : List (Nm × By × Value)} (h : Dk0 w p ro D m fp bv BV) (k : Kp S w w') (hs : ∀ b, ro b ≠ .none → S b) : Dk0 w' p ro D m fp bv BV where
  cell := k.heap h.cell (hs _ (by rw [h.rp]; decide))
  map := h.map.kept k (hs _ (by rw [h.rm]; decide))
  fl := h.fl.kept k (fun b hb => hs b (by rcases hb with e | ⟨f, e⟩ <;> rw [e] <;> simp))
  bf := h.bf.kept k (fun b hb => hs b (by rcases hb with e | e <;> rw [e] <;> simp))
  rp := h.rp
  rm := h.rm
  lt := fun b hb => Nat.lt_of_lt_of_le (h.lt b hb) k.size
  names := h.names
  bl := h.bl
  kw := h.kw
  us := h.us
theorem Dk.kept {S : Nat → Prop} {w w' : World} {p : Nat} {ro : Nat → Role} {D : DS} (h : Dk w p ro D) (k : Kp S w w') (hs : ∀ b, ro b ≠ .none → S b) : Dk w' p ro D := by
  obtain ⟨m, fp, bv, BV, h⟩ := h
  exact ⟨m, fp, bv, BV, h.kept k hs⟩
theorem Dk.all {w w' : World} {p : Nat} {ro : Nat → Role} {D : DS} (h : Dk w p ro D) (k : Kp All w w') : Dk w' p ro D := h.kept k fun _ _ => trivial
theorem Dk.nx {w w' : World} {p : Nat} {ro : Nat → Role} {D : DS} (h : Dk w p ro D) (k : Kp All w w') : Nx w ro p D w' := ⟨ro, h.all k, fun _ _ h => h, k.all⟩
theorem Nx.pre {w w1 w' : World} {ro : Nat → Role} {p : Nat} {D' : DS} (k : Kp All w w1) (h : Nx w1 ro p D' w') : Nx w ro p D' w' := by
  obtain ⟨ro', h1, h2, h3⟩ := h
  exact ⟨ro', h1, fun b hb hn => h2 b (Nat.lt_of_lt_of_le hb k.size) hn, k.all.trans h3⟩

/-! ### Small functions -/
theorem needs_any (n : Nat) (hn : n ≤ 1099511627776) (w : World) : Calls Try.prog 40 #[.int .i64 n] w fun e w' => e = .returned (.int .i64 (needs n)) ∧ w = w' := by
  go_enter Try.func40, Try.ntmps40
  go_wp2
  refine bodyPost_ret (v := .int .i64 (n / 64 + 1)) (by simp [results, Try.results40, go_sem]) rfl ⟨?_, rfl⟩
  simp [needs]

theorem size_any (f : Nat) (A : Option Addr) (n c mo : Nat) (hn : n ≤ 1099511627776) (hmo : mo ≤ 1099511627776) (w : World) (h : w.heap[f]? = some (.cells #[.slice A n c, .int .i64 mo] 65 (0, 0))) :
    Calls Try.prog 41 #[.pointer (some ⟨f, 0, none⟩)] w fun e w' => e = .returned (.int .i64 (n + mo : Nat)) ∧ ∃ q, w' = w.drewN q := by
  have c1 := blk_cell h
  clear h
  go_enter Try.func41, Try.ntmps41
  go_wp2
  go_quiet (fail)
  go_wp2
  go_ret
  exact ⟨by simp, _, rfl⟩

set_option maxRecDepth 100000 in
theorem dmade_yes (p m : Nat) (D : DS) (u : Int) (bv : Value) (w : World) (h : w.heap[p]? = some (.cells (dcs D u m bv) 57 (0, 0))) :
    Calls Try.prog 43 #[.pointer (some ⟨p, 0, none⟩)] w fun e w' => e = .returned (.bool true) ∧ w = w' := by
  have hn := fun (w : World) (m : Option Nat) => run_neq_map_nil w 54 9 62 m Try.underlying54
  have c1 := blk_cell h
  unfold dcs at c1
  clear h
  go_enter Try.func43, Try.ntmps43
  go_wp2
  go_ret
  exact ⟨rfl, rfl⟩
end Go.Proofs.Ytdlbccjimdghkaa
