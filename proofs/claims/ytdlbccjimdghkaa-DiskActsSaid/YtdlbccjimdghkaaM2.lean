/- The disk: what a disk is in memory (Dk), its plain state (DS), and the small functions, walked once each. No condition on the disk but that it lies as Dk says. The disk: On, may, Start, New, Clone of bytes, Pending: walked once each. No condition on the disk but that it lies as Dk says. The disk: Pending, settle, Crash, begin: walked once each. No condition on the disk but that it lies as Dk says. The disk: what one round of settle leaves. No program is walked here. -/
import Derived.Test.YtdlbccjimdghkaaK0
import Derived.Test.YtdlbccjimdghkaaRT
import Derived.StillTailTactics
namespace Go.Proofs.Ytdlbccjimdghkaa
open Go.RowKit
set_option linter.unusedVariables false
theorem strKey : KeyEnc Try.prog 9 .string (fun k : ByteArray => Value.string k) := ⟨Try.underlying9, fun _ => trivial, fun _ _ h => by injection h⟩
abbrev SMap := KMap (fun k : ByteArray => Value.string k)
theorem el8 : El Try.prog 32 5 1 1 (.int .u8 0) := ⟨Try.underlying32, by kernel_rfl, rfl, by decide, by decide⟩
theorem elw : El Try.prog 55 67 2 32 (.agg #[.pointer none, .slice none 0 0]) := ⟨Try.underlying55, by kernel_rfl, rfl, by decide, by decide⟩

abbrev Nm := ByteArray
abbrev By := List UInt8
def u8s (l : By) : List Value := l.map fun x => .int .u8 x.toNat
theorem u8s_one (l : By) : ∀ u ∈ u8s l, u.oneCell' = true := by
  intro u hu
  obtain ⟨x, _, rfl⟩ := List.mem_map.1 hu
  rfl
@[simp] theorem u8s_len (l : By) : (u8s l).length = l.length := by simp [u8s]
theorem u8s_append (a b : By) : u8s (a ++ b) = u8s a ++ u8s b := by simp [u8s]
theorem u8s_take (a : By) (n : Nat) : u8s (a.take n) = (u8s a).take n := by simp [u8s, List.map_take]

/-! ### The plain state -/
def needs (n : Nat) : Nat := n / 64 + 1
def moreOf : List (Nm × By) → Nm → Nat
  | [], _ => 0
  | x :: l, n => (if x.1 = n then x.2.length else 0) + moreOf l n
def usedOf (F B : List (Nm × By)) : Nat := (F.map fun x => needs (x.2.length + moreOf B x.1)).sum
def pend (B : List (Nm × By)) : Nat := (B.map fun x => x.2.length).sum
structure DS where
  blocks : Int
  off : Bool
  ops : Int
  fails : Int
  keep : Int
  F : List (Nm × By)
  B : List (Nm × By)
def addTo (F : List (Nm × By)) (n : Nm) (b : By) : List (Nm × By) := F.map fun y => if y.1 = n then (y.1, y.2 ++ b) else y
def settleF : List (Nm × By) → List (Nm × By) → Nat → List (Nm × By)
  | F, [], _ => F
  | F, x :: r, n => settleF (addTo F x.1 (x.2.take n)) r (n - min x.2.length n)
def DS.settle (D : DS) (n : Nat) : DS := { D with F := settleF D.F D.B n, B := [] }
def DS.crash (D : DS) (keep : Int) : DS := { D.settle keep.toNat with off := true }
def DS.gone (D : DS) (n : Nm) : DS := { D with F := adel D.F n, B := adel D.B n }

theorem mem_moreOf_le {B : List (Nm × By)} {n : Nm} : moreOf B n ≤ pend B := by
  induction B with
  | nil => simp [moreOf, pend]
  | cons x l ih =>
    simp only [moreOf, pend, List.map_cons, List.sum_cons] at ih ⊢
    split <;> omega
theorem le_usedOf {F B : List (Nm × By)} {x : Nm × By} (h : x ∈ F) : needs (x.2.length + moreOf B x.1) ≤ usedOf F B := by
  induction F with
  | nil => cases h
  | cons y l ih =>
    simp only [usedOf, List.map_cons, List.sum_cons] at ih ⊢
    cases h with
    | head => omega
    | tail _ h => have := ih h; omega

/-! ### Where it lies -/
inductive Role where
  | none | disk | map | buf | file | sure (f : Nat) | data
  deriving DecidableEq
structure Fl (w : World) (ro : Nat → Role) (fp : Nm → Nat) (F rest : List (Nm × By)) : Prop where
  lie : ∀ x ∈ F, ∃ v, w.heap[fp x.1]? = some (.cells #[v, .int .i64 (moreOf rest x.1)] 65 (0, 0)) ∧ w.ownsRow 0 5 1 v x.2.length (u8s x.2) ∧ (∀ b, v.ownBlock = some b → ro b = .sure (fp x.1))
  role : ∀ x ∈ F, ro (fp x.1) = .file
  inj : ∀ x ∈ F, ∀ y ∈ F, fp x.1 = fp y.1 → x.1 = y.1
/-- the cells of the buffer -/
def wcs (fp : Nm → Nat) (BV : List (Nm × By × Value)) : List Value := BV.flatMap fun x => [.pointer (some ⟨fp x.1, 0, Option.none⟩), x.2.2]
/-- the blocks of the data in the buffer -/
def blks (BV : List (Nm × By × Value)) : List Nat := BV.filterMap fun x => x.2.2.ownBlock
structure Bf (w : World) (ro : Nat → Role) (fp : Nm → Nat) (B : List (Nm × By)) (bv : Value) (BV : List (Nm × By × Value)) : Prop where
  eq : B = BV.map fun x => (x.1, x.2.1)
  row : w.ownsRow 0 67 2 bv B.length (wcs fp BV)
  role : ∀ b, bv.ownBlock = some b → ro b = .buf
  data : ∀ x ∈ BV, w.ownsRow 0 5 1 x.2.2 x.2.1.length (u8s x.2.1) ∧ ∀ b, x.2.2.ownBlock = some b → ro b = .data
  one : (blks BV).Nodup
def dcs (D : DS) (u : Int) (m : Nat) (bv : Value) : Array Value := #[.int .i64 D.blocks, .int .i64 u, .map (some m), bv, .bool D.off, .int .i64 D.ops, .int .i64 D.fails, .int .i64 D.keep]
structure Dk0 (w : World) (p : Nat) (ro : Nat → Role) (D : DS) (m : Nat) (fp : Nm → Nat) (bv : Value) (BV : List (Nm × By × Value)) : Prop where
  cell : w.heap[p]? = some (.cells (dcs D (usedOf D.F D.B) m bv) 57 (0, 0))
  map : SMap w m (D.F.map fun x => (x.1, .pointer (some ⟨fp x.1, 0, Option.none⟩)))
  fl : Fl w ro fp D.F D.B
  bf : Bf w ro fp D.B bv BV
  rp : ro p = .disk
  rm : ro m = .map
  lt : ∀ b, ro b ≠ .none → b < w.heap.size
  names : ∀ x ∈ D.B, x.1 ∈ D.F.map (·.1)
  bl : D.blocks ≤ 16777216
  kw : D.keep ≤ 9223372036854775807
  us : (usedOf D.F D.B : Int) ≤ D.blocks
def Dk (w : World) (p : Nat) (ro : Nat → Role) (D : DS) : Prop := ∃ m fp bv BV, Dk0 w p ro D m fp bv BV
/-- D' lies behind a step from w; what was no block of the disk is none, and is kept. -/
def Nx (w : World) (ro : Nat → Role) (p : Nat) (D' : DS) (w' : World) : Prop :=
  ∃ ro', Dk w' p ro' D' ∧ (∀ b, b < w.heap.size → ro b = .none → ro' b = .none) ∧ Kp (fun b => ro b = .none) w w'

theorem own_kept {S : Nat → Prop} {w w' : World} {base e sz n : Nat} {v : Value} {xs : List Value} (h : w.ownsRow base e sz v n xs) (k : Kp S w w') (hs : ∀ b, v.ownBlock = some b → S b) : w'.ownsRow base e sz v n xs := by
  refine ⟨h.1, ?_⟩
  rcases h.2 with hn | ⟨g, cap, cur, rfl, hb, hg, rest⟩
  · exact .inl hn
  · exact .inr ⟨g, cap, cur, rfl, hb, k.heap hg (hs g rfl), rest⟩

theorem Fl.kept {S : Nat → Prop} {w w' : World} {ro : Nat → Role} {fp : Nm → Nat} {F rest : List (Nm × By)} (h : Fl w ro fp F rest) (k : Kp S w w') (hs : ∀ b, (ro b = .file ∨ ∃ f, ro b = .sure f) → S b) : Fl w' ro fp F rest where
  lie := fun x hx => by
    obtain ⟨v, h1, h2, h3⟩ := h.lie x hx
    exact ⟨v, k.heap h1 (hs _ (.inl (h.role x hx))), own_kept h2 k (fun b hb => hs b (.inr ⟨_, h3 b hb⟩)), h3⟩
  role := h.role
  inj := h.inj
theorem Bf.kept {S : Nat → Prop} {w w' : World} {ro : Nat → Role} {fp : Nm → Nat} {B : List (Nm × By)} {bv : Value} {BV : List (Nm × By × Value)} (h : Bf w ro fp B bv BV) (k : Kp S w w') (hs : ∀ b, (ro b = .buf ∨ ro b = .data) → S b) : Bf w' ro fp B bv BV where
  eq := h.eq
  row := own_kept h.row k (fun b hb => hs b (.inl (h.role b hb)))
  role := h.role
  data := fun x hx => ⟨own_kept (h.data x hx).1 k (fun b hb => hs b (.inr ((h.data x hx).2 b hb))), (h.data x hx).2⟩
  one := h.one
theorem Dk0.kept {S : Nat → Prop} {w w' : World} {p : Nat} {ro : Nat → Role} {D : DS} {m : Nat} {fp : Nm → Nat} {bv : Value} {BV : List (Nm × By × Value)} (h : Dk0 w p ro D m fp bv BV) (k : Kp S w w') (hs : ∀ b, ro b ≠ .none → S b) : Dk0 w' p ro D m fp bv BV where
  cell := k.heap h.cell (hs _ (by rw [h.rp]; decide))
  map := h.map.kept k (hs _ (by rw [h.rm]; decide))
  fl := h.fl.kept k (fun b hb => hs b (by rcases hb with e | ⟨f, e⟩ <;> rw [e] <;> simp))
  bf := h.bf.kept k (fun b hb => hs b (by rcases hb with e | e <;> rw [e] <;> simp))
  rp := h.rp
  rm := h.rm
  lt := fun b hb => Nat.lt_of_lt_of_le (h.lt b hb) k.size
  names := h.names
  bl := h.bl
  kw := h.kw
  us := h.us
theorem Dk.kept {S : Nat → Prop} {w w' : World} {p : Nat} {ro : Nat → Role} {D : DS} (h : Dk w p ro D) (k : Kp S w w') (hs : ∀ b, ro b ≠ .none → S b) : Dk w' p ro D := by
  obtain ⟨m, fp, bv, BV, h⟩ := h
  exact ⟨m, fp, bv, BV, h.kept k hs⟩
theorem Dk.all {w w' : World} {p : Nat} {ro : Nat → Role} {D : DS} (h : Dk w p ro D) (k : Kp All w w') : Dk w' p ro D := h.kept k fun _ _ => trivial
theorem Dk.nx {w w' : World} {p : Nat} {ro : Nat → Role} {D : DS} (h : Dk w p ro D) (k : Kp All w w') : Nx w ro p D w' := ⟨ro, h.all k, fun _ _ h => h, k.all⟩
theorem Nx.pre {w w1 w' : World} {ro : Nat → Role} {p : Nat} {D' : DS} (k : Kp All w w1) (h : Nx w1 ro p D' w') : Nx w ro p D' w' := by
  obtain ⟨ro', h1, h2, h3⟩ := h
  exact ⟨ro', h1, fun b hb hn => h2 b (Nat.lt_of_lt_of_le hb k.size) hn, k.all.trans h3⟩

/-! ### Small functions -/
theorem needs_any (n : Nat) (hn : n ≤ 1099511627776) (w : World) : Calls Try.prog 40 #[.int .i64 n] w fun e w' => e = .returned (.int .i64 (needs n)) ∧ w = w' := by
  go_enter Try.func40, Try.ntmps40
  go_wp2
  refine bodyPost_ret (v := .int .i64 (n / 64 + 1)) (by simp [results, Try.results40, go_sem]) rfl ⟨?_, rfl⟩
  simp [needs]

theorem size_any (f : Nat) (A : Option Addr) (n c mo : Nat) (hn : n ≤ 1099511627776) (hmo : mo ≤ 1099511627776) (w : World) (h : w.heap[f]? = some (.cells #[.slice A n c, .int .i64 mo] 65 (0, 0))) :
    Calls Try.prog 41 #[.pointer (some ⟨f, 0, none⟩)] w fun e w' => e = .returned (.int .i64 (n + mo : Nat)) ∧ ∃ q, w' = w.drewN q := by
  have c1 := blk_cell h
  clear h
  go_enter Try.func41, Try.ntmps41
  go_wp2
  go_quiet (fail)
  go_wp2
  go_ret
  exact ⟨by simp, _, rfl⟩

set_option maxRecDepth 100000 in
theorem dmade_yes (p m : Nat) (D : DS) (u : Int) (bv : Value) (w : World) (h : w.heap[p]? = some (.cells (dcs D u m bv) 57 (0, 0))) :
    Calls Try.prog 43 #[.pointer (some ⟨p, 0, none⟩)] w fun e w' => e = .returned (.bool true) ∧ w = w' := by
  have hn := fun (w : World) (m : Option Nat) => run_neq_map_nil w 54 9 62 m Try.underlying54
  have c1 := blk_cell h
  unfold dcs at c1
  clear h
  go_enter Try.func43, Try.ntmps43
  go_wp2
  go_ret
  exact ⟨rfl, rfl⟩
end Go.Proofs.Ytdlbccjimdghkaa

namespace Go.Proofs.Ytdlbccjimdghkaa
open Go.RowKit
set_option linter.unusedVariables false
def mayErr (D : DS) : Int := if D.off then 9 else 0

set_option maxRecDepth 100000 in
theorem may_any (p m : Nat) (D : DS) (u : Int) (bv : Value) (w : World) (h : w.heap[p]? = some (.cells (dcs D u m bv) 57 (0, 0))) :
    Calls Try.prog 33 #[.pointer (some ⟨p, 0, none⟩)] w fun e w' => e = .returned (.int .i64 (mayErr D)) ∧ w = w' := by
  have H := hid h
  have c1 := blk_cell h
  unfold dcs at c1
  clear h
  obtain ⟨b, hb⟩ : ∃ b, D.off = b := ⟨_, rfl⟩
  have HB : Hid (mayErr D = if b then 9 else 0) := hid (by rw [mayErr, hb])
  rw [hb] at c1
  clear hb
  go_enter Try.func33, Try.ntmps33
  go_wp2_with fail
  refine (dmade_yes p m D u bv w H.out).mono ?_
  rintro e w1 ⟨rfl, rfl⟩
  cases b <;> (go_wp2_with fail; go_ret; exact ⟨by rw [HB.out]; rfl, rfl⟩)

set_option maxRecDepth 100000 in
theorem on_any (p m : Nat) (D : DS) (u : Int) (bv : Value) (w : World) (h : w.heap[p]? = some (.cells (dcs D u m bv) 57 (0, 0))) :
    Calls Try.prog 22 #[.pointer (some ⟨p, 0, none⟩)] w fun e w' => e = .returned (.bool (!D.off)) ∧ w = w' := by
  have H := hid h
  have c1 := blk_cell h
  unfold dcs at c1
  clear h
  obtain ⟨b, hb⟩ : ∃ b, D.off = b := ⟨_, rfl⟩
  rw [hb] at c1 ⊢
  clear hb
  go_enter Try.func22, Try.ntmps22
  go_wp2_with fail
  refine (dmade_yes p m D u bv w H.out).mono ?_
  rintro e w1 ⟨rfl, rfl⟩
  go_wp2_with fail
  go_ret
  exact ⟨rfl, rfl⟩

theorem Dk0.cellset {w w' : World} {p : Nat} {ro : Nat → Role} {D D' : DS} {m : Nat} {fp : Nm → Nat} {bv : Value} {BV : List (Nm × By × Value)} (h : Dk0 w p ro D m fp bv BV)
    (k : Kp (fun b => b ≠ p) w w') (hc : w'.heap[p]? = some (.cells (dcs D' (usedOf D.F D.B) m bv) 57 (0, 0))) (hF : D'.F = D.F) (hB : D'.B = D.B) (hb : D'.blocks = D.blocks) (hk : D'.keep ≤ 9223372036854775807) : Dk0 w' p ro D' m fp bv BV where
  cell := by rw [hF, hB]; exact hc
  map := by rw [hF]; exact h.map.kept k (fun e => by have := h.rm; rw [e, h.rp] at this; cases this)
  fl := by
    rw [hF, hB]
    exact h.fl.kept k (fun b hb e => by subst e; rw [h.rp] at hb; rcases hb with e | ⟨f, e⟩ <;> cases e)
  bf := by
    rw [hB]
    exact h.bf.kept k (fun b hb e => by subst e; rw [h.rp] at hb; rcases hb with e | e <;> cases e)
  rp := h.rp
  rm := h.rm
  lt := fun b hb => Nat.lt_of_lt_of_le (h.lt b hb) k.size
  names := by rw [hF, hB]; exact h.names
  bl := by rw [hb]; exact h.bl
  kw := hk
  us := by rw [hF, hB, hb]; exact h.us
theorem Nx.of {w w' : World} {p : Nat} {ro : Nat → Role} {D' : DS} {S : Nat → Prop} (h : Dk w' p ro D') (k : Kp S w w') (hs : ∀ b, ro b = .none → S b) : Nx w ro p D' w' := ⟨ro, h, fun _ _ h => h, k.mono fun b _ hb => hs b hb⟩

def DS.start (D : DS) : DS := { D with off := false, fails := 0 }
set_option maxRecDepth 100000 in
theorem start_any (p : Nat) (ro : Nat → Role) (D : DS) (w : World) (h : Dk w p ro D) :
    Calls Try.prog 19 #[.pointer (some ⟨p, 0, none⟩)] w fun e w' => e = .returned (.tuple #[]) ∧ Nx w ro p D.start w' := by
  obtain ⟨m, fp, bv, BV, h⟩ := h
  have H := hid h
  have c1 := blk_cell h.cell
  have b1 := hid h.cell
  have f1 := blk_free h.cell
  have hp : p < w.heap.size := blk_lt h.cell
  unfold dcs at c1
  clear h
  go_enter Try.func19, Try.ntmps19
  go_wp2_with fail
  refine (dmade_yes p m D _ bv w H.out.cell).mono ?_
  rintro e w1 ⟨rfl, rfl⟩
  go_wp2_with fail
  go_end0
  have b2 := blk_set (blk_set b1.out 4 (.bool false)) 6 (.int .i64 0)
  refine ⟨rfl, Nx.of ⟨m, fp, bv, BV, H.out.cellset (D' := D.start) (k := ?_) b2 rfl rfl rfl H.out.kw⟩ (S := fun b => b ≠ p) ?_ ?_⟩
  · exact ((Kp.refl _ _).setOut (by simp) _).setOut (by simp) _
  · exact ((Kp.refl _ _).setOut (by simp) _).setOut (by simp) _
  · intro b hb e
    rw [e, H.out.rp] at hb
    cases hb

theorem Nx_new {w : World} {p : Nat} : True := trivial

set_option maxRecDepth 100000 in
theorem clone8_any (A : Option Addr) (n c : Nat) (xs : List Value) (w : World) (h : Foot All (Sl A n c 1 xs) w) (hn : n ≤ 140737488355328) (h1 : ∀ u ∈ xs, u.oneCell' = true) :
    Calls Try.prog 42 #[.slice A n c] w fun e w' => (∃ v, e = .returned v ∧ w'.ownsRow w.heap.size 5 1 v n xs) ∧ Kp All w w' := by
  have H := hid h
  have H1 := hid h1
  clear h h1
  have hq := fun (w : World) (A : Option Addr) (n c : Nat) => Lib.run_eql_slice_nil (P := Try.prog) w 32 5 A n c 0 0 Try.underlying32
  have hbs := fun (w : World) => run_build0 (w := w) el8
  by_cases hA : A = none
  · subst hA
    have hn0 : n = 0 := by
      rcases Nat.eq_zero_or_pos n with h | h
      · exact h
      · obtain ⟨_, _, e, _⟩ := H.out.now.2.2 h; cases e
    subst hn0
    go_enter Try.func42, Try.ntmps42
    go_wp2
    go_ret
    have hx : xs = [] := List.eq_nil_of_length_eq_zero (by rw [H.out.now.1])
    subst hx
    exact ⟨⟨.slice none 0 0, rfl, World.ownsRow_nil _ _ _ _⟩, Kp.refl _ _⟩
  · obtain ⟨a, rfl⟩ := Option.ne_none_iff_exists'.1 hA
    go_enter Try.func42, Try.ntmps42
    go_wp2_with (at_builtin; refine wpList_app el8 (own_build0 (base := w.heap.size) (Nat.le_refl _)) ((H.out.step ((Kp.refl _ _).alloc _)).now) H1.out (by omega) (by simp) rfl _ _ rfl rfl rfl ?_; intro v' w1 hown' hg hob hnil)
    go_ret
    have hk : Kp All w w1 := ((Kp.refl All w).alloc (.cells #[] 5)).then (Kp.grown hg) (fun i hi _ => by simp [Value.ownBlock]; omega)
    rw [Nat.zero_add, List.nil_append] at hown'
    exact ⟨⟨v', rfl, hown'⟩, hk⟩

set_option maxRecDepth 100000 in
theorem dnew_any (n : Int) (h0 : 0 ≤ n) (h1 : n ≤ 16777216) (w : World) :
    Calls Try.prog 13 #[.int .i64 n] w fun e w' => (∃ p ro, e = .returned (.pointer (some ⟨p, 0, none⟩)) ∧ Dk w' p ro ⟨n, false, 0, 0, 0, [], []⟩ ∧ ∀ b, b < w.heap.size → ro b = .none) ∧ Kp All w w' := by
  have hmm := @run_makeMap Try.prog
  have d0 : decide (n < 0) = false := decide_eq_false (by omega)
  have d1 : decide (16777216 < n) = false := decide_eq_false (by omega)
  go_enter Try.func13, Try.ntmps13
  go_wp2_with fail
  go_ret
  refine ⟨⟨w.heap.size + 1, fun b => if b = w.heap.size + 1 then .disk else if b = w.heap.size then .map else .none, ?_, ⟨w.heap.size, fun _ => 0, .slice none 0 0, [], ?_⟩, fun b hb => ?_⟩, ?_⟩
  · simp
  · refine ⟨?_, ?_, ⟨by simp, by simp, by simp⟩, ⟨rfl, World.ownsRow_nil _ _ _ _, by simp [Value.ownBlock], by simp, by simp [blks]⟩, by simp, by simp, ?_, by simp, h1, by simp, by simpa [usedOf] using h0⟩
    · have := blk_new (w.alloc (.map #[] 0)) (.cells (dcs ⟨n, false, 0, 0, 0, [], []⟩ 0 w.heap.size (.slice none 0 0)) 57)
      rwa [World.size_alloc] at this
    · exact (KMap.new _ w).kept ((Kp.refl All _).alloc _) trivial
    · intro b hb
      simp only [World.size_alloc]
      split at hb
      · omega
      · split at hb
        · omega
        · exact absurd rfl hb
  · have h1 : b ≠ w.heap.size + 1 := by omega
    have h2 : b ≠ w.heap.size := by omega
    simp [h1, h2]
  · exact ((Kp.refl _ _).alloc _).alloc _
end Go.Proofs.Ytdlbccjimdghkaa

namespace Go.Proofs.Ytdlbccjimdghkaa
open Go.RowKit
set_option linter.unusedVariables false
def moreSum (F B : List (Nm × By)) : Nat := (F.map fun x => moreOf B x.1).sum
theorem moreSum_cons (F : List (Nm × By)) (x : Nm × By) (l : List (Nm × By)) : moreSum F l ≤ moreSum F (x :: l) ∧ (x.1 ∈ F.map (·.1) → moreSum F l + x.2.length ≤ moreSum F (x :: l)) := by
  induction F with
  | nil => simp [moreSum]
  | cons y r ih =>
    simp only [moreSum, List.map_cons, List.sum_cons, moreOf, List.mem_cons] at ih ⊢
    constructor
    · split <;> omega
    · rintro (e | e)
      · rw [if_pos e]; omega
      · have := ih.2 e
        split <;> omega
theorem pend_le_moreSum {F B : List (Nm × By)} (h : ∀ x ∈ B, x.1 ∈ F.map (·.1)) : pend B ≤ moreSum F B := by
  induction B with
  | nil => simp [pend]
  | cons x l ih =>
    have h1 := ih fun y hy => h y (List.mem_cons_of_mem _ hy)
    have h2 := (moreSum_cons F x l).2 (h x (List.mem_cons_self ..))
    simp only [pend, List.map_cons, List.sum_cons] at h1 ⊢
    omega
theorem moreSum_le_used (F B : List (Nm × By)) : moreSum F B ≤ 64 * usedOf F B := by
  induction F with
  | nil => simp [moreSum]
  | cons y r ih =>
    simp only [moreSum, usedOf, List.map_cons, List.sum_cons, needs] at ih ⊢
    omega
theorem Dk0.pend_le {w : World} {p : Nat} {ro : Nat → Role} {D : DS} {m : Nat} {fp : Nm → Nat} {bv : Value} {BV : List (Nm × By × Value)} (h : Dk0 w p ro D m fp bv BV) : pend D.B ≤ 1073741824 := by
  have h1 := pend_le_moreSum h.names
  have h2 := moreSum_le_used D.F D.B
  have h3 := h.bl
  have h4 := h.us
  omega
theorem Dk0.size_le {w : World} {p : Nat} {ro : Nat → Role} {D : DS} {m : Nat} {fp : Nm → Nat} {bv : Value} {BV : List (Nm × By × Value)} (h : Dk0 w p ro D m fp bv BV) {x : Nm × By} (hx : x ∈ D.F) : x.2.length + moreOf D.B x.1 ≤ 1073741824 := by
  have h1 := le_usedOf (B := D.B) hx
  have h3 := h.bl
  have h4 := h.us
  unfold needs at h1
  omega
theorem wcs_get (fp : Nm → Nat) : ∀ (BV : List (Nm × By × Value)) (k : Nat) (x : Nm × By × Value), BV[k]? = some x → (wcs fp BV)[k * 2]? = some (.pointer (some ⟨fp x.1, 0, none⟩)) ∧ (wcs fp BV)[k * 2 + 1]? = some x.2.2
  | [], k, x, h => by simp at h
  | y :: l, 0, x, h => by
    simp at h
    subst h
    simp [wcs]
  | y :: l, k + 1, x, h => by
    have := wcs_get fp l k x (by simpa using h)
    simp only [wcs, List.flatMap_cons] at this ⊢
    rw [show (k + 1) * 2 = k * 2 + 2 from by omega]
    exact this
theorem own_at {w : World} {base e sz n : Nat} {v : Value} {xs : List Value} (h : w.ownsRow base e sz v n xs) : (v = .slice none 0 0 ∧ n = 0 ∧ xs = []) ∨ ∃ g cap cur, v = .slice (some ⟨g, 0, none⟩) n cap ∧ w.heap[g]? = some (.cells cur e (0, 0)) ∧ base ≤ g ∧ ∀ j u, xs[j]? = some u → w.cell? ⟨g, j, none⟩ = some u := by
  rcases h.2 with ⟨rfl, rfl⟩ | ⟨g, cap, cur, rfl, hb, hg, hn, hc, hs, ht⟩
  · exact .inl ⟨rfl, rfl, List.eq_nil_of_length_eq_zero (by rw [h.1, Nat.zero_mul])⟩
  · refine .inr ⟨g, cap, cur, rfl, hg, hb, fun j u hj => ?_⟩
    rw [blk_cell hg, ← Array.getElem?_toList]
    rw [← ht, List.getElem?_take] at hj
    split at hj
    · exact hj
    · cases hj
theorem own_shape {w : World} {base e sz n : Nat} {v : Value} {xs : List Value} (h : w.ownsRow base e sz v n xs) : ∃ A c, v = .slice A n c := by
  rcases own_at h with ⟨rfl, rfl, _⟩ | ⟨g, cap, _, rfl, _⟩
  · exact ⟨_, _, rfl⟩
  · exact ⟨_, _, rfl⟩
theorem own_le {w : World} {base e sz n : Nat} {v : Value} {xs : List Value} (h : w.ownsRow base e sz v n xs) : n ≤ 9223372036854775807 := by
  rcases h.2 with ⟨rfl, rfl⟩ | ⟨g, cap, cur, rfl, hb, hg, hn, hc, hs, ht⟩
  · exact Nat.zero_le _
  · exact Nat.le_trans hn hc
/-- a write of the buffer, read through its cells -/
theorem Bf.at {w : World} {ro : Nat → Role} {fp : Nm → Nat} {B : List (Nm × By)} {bv : Value} {BV : List (Nm × By × Value)} (h : Bf w ro fp B bv BV) {k : Nat} {x : Nm × By} (hk : B[k]? = some x) :
    ∃ g cap A c, bv = .slice (some ⟨g, 0, none⟩) B.length cap ∧ BV[k]? = some (x.1, x.2, .slice A x.2.length c) ∧ w.cell? ⟨g, k * 2, none⟩ = some (.pointer (some ⟨fp x.1, 0, none⟩)) ∧ w.cell? ⟨g, k * 2 + 1, none⟩ = some (.slice A x.2.length c) ∧ w.ownsRow 0 5 1 (.slice A x.2.length c) x.2.length (u8s x.2) ∧ (∀ b, (Value.slice A x.2.length c).ownBlock = some b → ro b = .data) ∧ ro g = .buf := by
  have hk' := hk
  rw [h.eq, List.getElem?_map] at hk'
  cases hy : BV[k]? with
  | none => rw [hy] at hk'; cases hk'
  | some y =>
    rw [hy] at hk'
    simp at hk'
    subst hk'
    obtain ⟨d1, d2⟩ := h.data y (List.mem_of_getElem? hy)
    obtain ⟨A, c, e⟩ := own_shape d1
    rcases own_at h.row with ⟨e1, e2, e3⟩ | ⟨g, cap, cur, e1, _, _, e2⟩
    · have := (List.getElem?_eq_some_iff.1 hk).1
      omega
    · obtain ⟨c1, c2⟩ := wcs_get fp BV k y hy
      refine ⟨g, cap, A, c, e1, ?_, e2 _ _ c1, ?_, ?_, ?_, h.role g (by rw [e1]; rfl)⟩
      · rw [← e]
      · rw [e2 _ _ c2, e]
      · rw [← e]; exact d1
      · rw [← e]; exact d2
theorem pend_take {B : List (Nm × By)} {k : Nat} {x : Nm × By} (h : B[k]? = some x) : pend (B.take (k + 1)) = pend (B.take k) + x.2.length := by
  rw [List.take_add_one, h]
  simp [pend]
theorem pend_take_le (B : List (Nm × By)) (k : Nat) : pend (B.take k) ≤ pend B := by
  have h := congrArg pend (List.take_append_drop k B)
  simp only [pend, List.map_append, List.sum_append] at h ⊢
  omega

set_option maxRecDepth 100000 in
theorem pend_any (p : Nat) (ro : Nat → Role) (D : DS) (w : World) (h : Dk w p ro D) :
    Calls Try.prog 16 #[.pointer (some ⟨p, 0, none⟩)] w fun e w' => e = .returned (.int .i64 (if D.off then 0 else pend D.B : Nat)) ∧ Kp All w w' := by
  obtain ⟨m, fp, bv, BV, h⟩ := h
  have H := hid h
  have c1 := blk_cell h.cell
  obtain ⟨bo, hbo⟩ : ∃ b, D.off = b := ⟨_, rfl⟩
  obtain ⟨n, hn⟩ : ∃ n, D.B.length = n := ⟨_, rfl⟩
  obtain ⟨A, c, hbv⟩ := own_shape h.bf.row
  rw [hn] at hbv
  have hnm := own_le h.bf.row
  rw [hn] at hnm
  have HL := hid hn
  have HB := hid hbo
  have hpl := h.pend_le
  unfold dcs at c1
  rw [hbo] at c1 ⊢
  subst hbv
  clear h hbo hn
  cases bo
  · go_enter Try.func16, Try.ntmps16
    go_wp2_with fail
    refine (on_any p m D _ _ w H.out.cell).mono ?_
    rintro e w1 ⟨rfl, rfl⟩
    rw [HB.out]
    go_wp2_with fail
    go_loopw [3, 13] (fun x i wr => ∃ k : Nat, k ≤ n ∧ i = .int .i64 k ∧ x = .int .i64 (pend (D.B.take k)) ∧ Hid (Kp All w wr)) (fun _ i _ => n - (intOf i).toNat)
    case atStart => exact ⟨0, Nat.zero_le _, rfl, rfl, Kp.refl _ _⟩
    case round =>
      obtain ⟨k, hk, rfl, rfl, hkp⟩ := hrel
      have hpk := pend_take_le D.B k
      by_cases hlt : k < n
      · have hb0 : decide ((k : Int) < (n : Int)) = true := decide_eq_true (by omega)
        obtain ⟨x, hx⟩ : ∃ x, D.B[k]? = some x := ⟨_, List.getElem?_eq_getElem (by rw [HL.out]; exact hlt)⟩
        have hps := pend_take hx
        have hpk1 := pend_take_le D.B (k + 1)
        obtain ⟨g, cap, A', c', e1, _, p1, p2, _⟩ := (H.out.kept hkp.out (fun _ _ => trivial)).bf.at hx
        rw [HL.out] at e1
        injection e1 with eA _ ec
        subst eA ec
        have i0 : (0 : Int) ≤ (k : Int) := by omega
        have i1 : (k : Int) < (n : Int) := by omega
        obtain ⟨q, hq⟩ : ∃ q, pend (D.B.take k) = q := ⟨_, rfl⟩
        obtain ⟨l, hl⟩ : ∃ l, x.2.length = l := ⟨_, rfl⟩
        rw [hq] at hps hpk ⊢
        rw [hl] at hps p2
        have HP := hid hps
        rw [hps] at hpk1
        clear hps hx hl hq
        go_wp2_with fail
        exact ⟨⟨k + 1, by omega, by go_num, by rw [HP.out]; go_num, hkp.out.alloc _⟩, by simp [intOf]; omega⟩
      · have hb0 : decide ((k : Int) < (n : Int)) = false := decide_eq_false (by omega)
        go_wp2_with fail
        go_ret
        have : k = n := by omega
        subst this
        rw [List.take_of_length_le (by rw [HL.out]; exact Nat.le_refl _)]
        exact ⟨rfl, hkp.out⟩
  · go_enter Try.func16, Try.ntmps16
    go_wp2_with fail
    refine (on_any p m D _ _ w H.out.cell).mono ?_
    rintro e w1 ⟨rfl, rfl⟩
    rw [HB.out]
    go_wp2_with fail
    go_ret
    exact ⟨by simp, Kp.refl _ _⟩
end Go.Proofs.Ytdlbccjimdghkaa

namespace Go.Proofs.Ytdlbccjimdghkaa
open Go.RowKit
set_option linter.unusedVariables false
theorem addTo_keys (F : List (Nm × By)) (n : Nm) (c : By) : (addTo F n c).map (·.1) = F.map (·.1) := by
  unfold addTo
  rw [List.map_map]
  apply List.map_congr_left
  intro x _
  simp only [Function.comp]
  split <;> simp_all
theorem addTo_none {F : List (Nm × By)} {n : Nm} (h : n ∉ F.map (·.1)) (c : By) : addTo F n c = F := by
  unfold addTo
  rw [List.map_congr_left (g := id) (fun x hx => ?_), List.map_id]
  rw [if_neg (fun e => h (List.mem_map.2 ⟨x, hx, e⟩))]
  rfl
theorem usedOf_cons_none {F : List (Nm × By)} {x : Nm × By} (h : x.1 ∉ F.map (·.1)) (rest : List (Nm × By)) : usedOf F (x :: rest) = usedOf F rest := by
  unfold usedOf
  congr 1
  apply List.map_congr_left
  intro y hy
  rw [moreOf, if_neg (fun e => h (List.mem_map.2 ⟨y, hy, e.symm⟩)), Nat.zero_add]
theorem used_step {F : List (Nm × By)} {x : Nm × By} {s c : By} {rest : List (Nm × By)} (hn : (F.map (·.1)).Nodup) (h : (x.1, s) ∈ F) :
    usedOf (addTo F x.1 c) rest + needs (s.length + moreOf (x :: rest) x.1) = usedOf F (x :: rest) + needs (s.length + c.length + moreOf rest x.1) := by
  induction F with
  | nil => cases h
  | cons y l ih =>
    simp only [List.map_cons, List.nodup_cons] at hn
    cases h with
    | head =>
      have e1 := addTo_none hn.1 c
      have e2 := usedOf_cons_none (x := x) hn.1 rest
      simp only [usedOf] at e2 ⊢
      simp only [addTo, List.map_cons, if_true, List.sum_cons] at e1 ⊢
      rw [e1, e2, List.length_append]
      simp only [moreOf, if_true]
      omega
    | tail _ h =>
      have ih := ih hn.2 h
      have hne : y.1 ≠ x.1 := fun e => hn.1 (e ▸ List.mem_map.2 ⟨_, h, rfl⟩)
      have e3 : moreOf (x :: rest) y.1 = moreOf rest y.1 := by simp [moreOf, Ne.symm hne]
      simp only [usedOf, addTo] at ih ⊢
      simp only [List.map_cons, List.sum_cons, if_neg hne, e3]
      omega
theorem map_keys {F F' : List (Nm × By)} (h : F.map (·.1) = F'.map (·.1)) (g : Nm → Value) : (F.map fun x => (x.1, g x.1)) = F'.map fun x => (x.1, g x.1) := by
  have := congrArg (List.map fun n => (n, g n)) h
  simpa [List.map_map, Function.comp_def] using this
theorem mem_keys {F : List (Nm × By)} {n : Nm} (h : n ∈ F.map (·.1)) : ∃ s, (n, s) ∈ F := by
  obtain ⟨x, hx, rfl⟩ := List.mem_map.1 h
  exact ⟨x.2, hx⟩
theorem key_one {F : List (Nm × By)} (hn : (F.map (·.1)).Nodup) {n : Nm} {s t : By} (h : (n, s) ∈ F) (h' : (n, t) ∈ F) : s = t := by
  induction F with
  | nil => cases h
  | cons y l ih =>
    simp only [List.map_cons, List.nodup_cons] at hn
    cases h with
    | head =>
      cases h' with
      | head => rfl
      | tail _ h' => exact absurd (List.mem_map.2 ⟨_, h', rfl⟩) hn.1
    | tail _ h =>
      cases h' with
      | head => exact absurd (List.mem_map.2 ⟨_, h, rfl⟩) hn.1
      | tail _ h' => exact ih hn.2 h h'

theorem own_sl {w : World} {base e n c k : Nat} {A : Option Addr} {xs : List Value} (h : w.ownsRow base e 1 (.slice A n c) n xs) (hk : k ≤ n) : Sl A k c 1 (xs.take k) w ∧ n ≤ c := by
  have hl := h.1
  rcases h.2 with ⟨e1, e2⟩ | ⟨g, cap, cur, e1, _, hg, hn, _⟩
  · injection e1 with eA _ ec
    subst eA ec e2
    obtain rfl : k = 0 := by omega
    exact ⟨⟨by simp, Nat.le_refl _, fun h => absurd h (by omega)⟩, Nat.le_refl _⟩
  · injection e1 with eA _ ec
    subst eA ec
    refine ⟨⟨by rw [List.length_take]; omega, by omega, fun _ => ⟨g, 0, rfl, fun j u hj => ?_⟩⟩, hn⟩
    rw [Nat.zero_add]
    rcases own_at h with ⟨e1, _⟩ | ⟨g', cap', cur', e1, _, _, hat⟩
    · cases e1
    · injection e1 with e1 _ _
      injection e1 with e1
      injection e1 with e1 _ _
      subst e1
      refine hat j u ?_
      rw [List.getElem?_take] at hj
      split at hj
      · exact hj
      · cases hj

/-- The disk within settle: k writes are done. -/
structure St (w0 w : World) (p m : Nat) (ro0 ro : Nat → Role) (fp : Nm → Nat) (D : DS) (bv : Value) (BV : List (Nm × By × Value)) (k : Nat) (F : List (Nm × By)) : Prop where
  cell : w.heap[p]? = some (.cells (dcs D (usedOf F (D.B.drop k)) m bv) 57 (0, 0))
  map : SMap w m (D.F.map fun x => (x.1, .pointer (some ⟨fp x.1, 0, none⟩)))
  fl : Fl w ro fp F (D.B.drop k)
  bf : Bf w ro fp D.B bv BV
  rp : ro p = .disk
  rm : ro m = .map
  lt : ∀ b, ro b ≠ .none → b < w.heap.size
  keys : F.map (·.1) = D.F.map (·.1)
  us : usedOf F (D.B.drop k) ≤ usedOf D.F D.B
  ext : ∀ b, b < w0.heap.size → ro0 b = .none → ro b = .none
  kp : Kp (fun b => ro0 b = .none) w0 w
theorem St.kept {S : Nat → Prop} {w0 w w' : World} {p m : Nat} {ro0 ro : Nat → Role} {fp : Nm → Nat} {D : DS} {bv : Value} {BV : List (Nm × By × Value)} {k : Nat} {F : List (Nm × By)} (h : St w0 w p m ro0 ro fp D bv BV k F) (k2 : Kp All w w') : St w0 w' p m ro0 ro fp D bv BV k F where
  cell := k2.heap h.cell trivial
  map := h.map.all k2
  fl := h.fl.kept k2 fun _ _ => trivial
  bf := h.bf.kept k2 fun _ _ => trivial
  rp := h.rp
  rm := h.rm
  lt := fun b hb => Nat.lt_of_lt_of_le (h.lt b hb) k2.size
  keys := h.keys
  us := h.us
  ext := h.ext
  kp := h.kp.trans k2.all

theorem St.next {w0 wr wF : World} {p m : Nat} {ro0 ro : Nat → Role} {fp : Nm → Nat} {D : DS} {bv : Value} {BV : List (Nm × By × Value)} {k : Nat} {F : List (Nm × By)} (h : St w0 wr p m ro0 ro fp D bv BV k F)
    {x : Nm × By} {s c : By} {sv v3 : Value} {N : Nat} (hx : D.B[k]? = some x) (hdrop : D.B.drop k = x :: D.B.drop (k + 1)) (hs : (x.1, s) ∈ F) (hnd : (F.map (·.1)).Nodup)
    (hq : ∀ b, sv.ownBlock = some b → ro b = .sure (fp x.1)) (hcell : wF.heap[p]? = some (.cells (dcs D (usedOf (addTo F x.1 c) (D.B.drop (k + 1))) m bv) 57 (0, 0)))
    (hfile : wF.heap[fp x.1]? = some (.cells #[v3, .int .i64 (moreOf (D.B.drop (k + 1)) x.1)] 65 (0, 0))) (hown : wF.ownsRow 0 5 1 v3 (s ++ c).length (u8s (s ++ c)))
    (hob : v3.ownBlock = sv.ownBlock ∨ v3.ownBlock = some N) (hN : wr.heap.size ≤ N) (kp : Kp (fun b => b ≠ p ∧ b ≠ fp x.1 ∧ some b ≠ sv.ownBlock) wr wF) (hle : usedOf (addTo F x.1 c) (D.B.drop (k + 1)) ≤ usedOf F (D.B.drop k)) :
    ∃ ro', St w0 wF p m ro0 ro' fp D bv BV (k + 1) (addTo F x.1 c) := by
  have hf := h.fl.role _ hs
  simp only at hf
  -- what is no file's row and no new block
  have hold : ∀ b, ro b ≠ .sure (fp x.1) → b < wr.heap.size → some b ≠ v3.ownBlock := by
    intro b hb hlt e
    rcases hob with h1 | h1
    · rw [h1] at e
      exact hb (hq b e.symm)
    · rw [h1] at e
      injection e with e
      omega
  have hro : ∀ b, ro b ≠ .sure (fp x.1) → ro b ≠ .none → (if some b = v3.ownBlock then Role.sure (fp x.1) else ro b) = ro b := fun b hb hn => if_neg (hold b hb (h.lt b hn))
  have hkeep : ∀ b, ro b ≠ .none → ro b ≠ .disk → ro b ≠ .sure (fp x.1) → b ≠ fp x.1 → b ≠ p ∧ b ≠ fp x.1 ∧ some b ≠ sv.ownBlock := fun b _ h2 h3 h4 => ⟨fun e => h2 (e ▸ h.rp), h4, fun e => h3 (hq b e.symm)⟩
  refine ⟨fun b => if some b = v3.ownBlock then .sure (fp x.1) else ro b, hcell, ?_, ⟨?_, ?_, ?_⟩, ⟨h.bf.eq, ?_, ?_, ?_, h.bf.one⟩, ?_, ?_, ?_, ?_, ?_, ?_, ?_⟩
  · exact h.map.kept kp (hkeep m (by rw [h.rm]; decide) (by rw [h.rm]; decide) (by rw [h.rm]; simp) (fun e => by rw [← e, h.rm] at hf; cases hf))
  · intro y hy
    obtain ⟨z, hz, rfl⟩ := List.mem_map.1 hy
    by_cases e : z.1 = x.1
    · rw [if_pos e]
      have : z.2 = s := key_one hnd (n := x.1) (by rw [← e]; exact hz) hs
      subst this
      simp only
      rw [e]
      exact ⟨v3, hfile, hown, fun b hb => if_pos hb.symm⟩
    · rw [if_neg e]
      obtain ⟨v, h1, h2, h3⟩ := h.fl.lie z hz
      have hne : fp z.1 ≠ fp x.1 := fun e2 => e (h.fl.inj z hz (x.1, s) hs e2)
      have hzr := h.fl.role z hz
      refine ⟨v, ?_, ?_, ?_⟩
      · rw [hdrop, moreOf, if_neg (Ne.symm e), Nat.zero_add] at h1
        exact kp.heap h1 (hkeep _ (by rw [hzr]; decide) (by rw [hzr]; decide) (by rw [hzr]; simp) hne)
      · refine own_kept h2 kp fun b hb => ?_
        have h4 := h3 b hb
        exact hkeep b (by rw [h4]; simp) (by rw [h4]; simp) (by rw [h4]; simpa using hne) (fun e2 => by rw [e2, hf] at h4; cases h4)
      · intro b hb
        have h4 := h3 b hb
        rw [hro b (by rw [h4]; simpa using hne) (by rw [h4]; simp)]
        exact h4
  · intro y hy
    obtain ⟨z, hz, rfl⟩ := List.mem_map.1 hy
    have hzr := h.fl.role z hz
    have : (if z.1 = x.1 then (z.1, z.2 ++ c) else z).1 = z.1 := by split <;> rfl
    rw [this, hro _ (by rw [hzr]; simp) (by rw [hzr]; decide)]
    exact hzr
  · intro y hy y' hy' e
    obtain ⟨z, hz, rfl⟩ := List.mem_map.1 hy
    obtain ⟨z', hz', rfl⟩ := List.mem_map.1 hy'
    have e1 : (if z.1 = x.1 then (z.1, z.2 ++ c) else z).1 = z.1 := by split <;> rfl
    have e2 : (if z'.1 = x.1 then (z'.1, z'.2 ++ c) else z').1 = z'.1 := by split <;> rfl
    rw [e1, e2] at e ⊢
    exact h.fl.inj z hz z' hz' e
  · refine own_kept h.bf.row kp fun b hb => ?_
    have h4 := h.bf.role b hb
    exact hkeep b (by rw [h4]; simp) (by rw [h4]; simp) (by rw [h4]; simp) (fun e2 => by rw [e2, hf] at h4; cases h4)
  · intro b hb
    have h4 := h.bf.role b hb
    rw [hro b (by rw [h4]; simp) (by rw [h4]; simp)]
    exact h4
  · intro y hy
    obtain ⟨h1, h2⟩ := h.bf.data y hy
    refine ⟨own_kept h1 kp fun b hb => ?_, fun b hb => ?_⟩
    · have h4 := h2 b hb
      exact hkeep b (by rw [h4]; simp) (by rw [h4]; simp) (by rw [h4]; simp) (fun e2 => by rw [e2, hf] at h4; cases h4)
    · have h4 := h2 b hb
      rw [hro b (by rw [h4]; simp) (by rw [h4]; simp)]
      exact h4
  · rw [hro p (by rw [h.rp]; simp) (by rw [h.rp]; simp)]
    exact h.rp
  · rw [hro m (by rw [h.rm]; simp) (by rw [h.rm]; simp)]
    exact h.rm
  · intro b hb
    split at hb
    · rename_i e
      exact (hown.lt b e.symm).2
    · exact Nat.lt_of_lt_of_le (h.lt b hb) kp.size
  · rw [addTo_keys]
    exact h.keys
  · exact Nat.le_trans hle h.us
  · intro b hb hn
    have h1 := h.ext b hb hn
    rw [if_neg (hold b (by rw [h1]; simp) (Nat.lt_of_lt_of_le hb h.kp.size))]
    exact h1
  · refine h.kp.then kp fun b hb hn => ?_
    have h1 := h.ext b hb hn
    exact ⟨(fun e => by rw [e, h.rp] at h1; cases h1), (fun e => by rw [e, hf] at h1; cases h1), (fun e => by rw [hq b e.symm] at h1; cases h1)⟩

end Go.Proofs.Ytdlbccjimdghkaa
