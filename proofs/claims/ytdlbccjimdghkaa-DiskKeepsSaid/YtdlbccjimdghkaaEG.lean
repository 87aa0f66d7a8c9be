/- DiskKeeps: the law's walk. No condition but that names and writes lie as they were given. -/
import Derived.Test.YtdlbccjimdghkaaEF
namespace Go.Proofs.Ytdlbccjimdghkaa
open Go.RowKit
set_option linter.unusedVariables false
set_option linter.unusedSimpArgs false
/-- a row of byte slices, each in memory that is no disk's -/
structure Mm (w : World) (ro : Nat → Role) (b : Nat) (L : List By) (vs : List Value) : Prop where
  blk : w.heap[b]? = some (.cells vs.toArray 32 (0, 0))
  rb : ro b = .none
  len : vs.length = L.length
  row : ∀ (i : Nat) (v : Value) (l : By), vs[i]? = some v → L[i]? = some l → w.ownsRow 0 5 1 v l.length (u8s l) ∧ ∀ z, v.ownBlock = some z → ro z = .none
theorem Mm.kept {w w' : World} {ro ro' : Nat → Role} {b : Nat} {L : List By} {vs : List Value} (h : Mm w ro b L vs) (k : Kp (fun z => ro z = .none) w w') (hr : ∀ z, z < w.heap.size → ro z = .none → ro' z = .none) : Mm w' ro' b L vs where
  blk := k.heap h.blk h.rb
  rb := hr b (blk_lt h.blk) h.rb
  len := h.len
  row := fun i v l h1 h2 => by
    obtain ⟨r1, r2⟩ := h.row i v l h1 h2
    exact ⟨own_kept r1 k r2, fun z hz => hr z (r1.lt z hz).2 (r2 z hz)⟩
/-- the law's world: the disk, and two rows beside it -/
structure KM (w0 w : World) (p : Nat) (ro : Nat → Role) (D : DS) (bs ba : Nat) (S L : List By) (vs va : List Value) : Prop where
  dk : Dk w p ro D
  kp : Kp All w0 w
  rn : ∀ b, b < w0.heap.size → ro b = .none
  ms : Mm w ro bs S vs
  ma : Mm w ro ba L va
  ne : bs ≠ ba
  s0 : w0.heap.size ≤ bs
  a0 : w0.heap.size ≤ ba
theorem KM.next {w0 w w' : World} {p : Nat} {ro : Nat → Role} {D D' : DS} {bs ba : Nat} {S L : List By} {vs va : List Value} (h : KM w0 w p ro D bs ba S L vs va) (n : Nx w ro p D' w') : ∃ ro', KM w0 w' p ro' D' bs ba S L vs va := by
  obtain ⟨ro', h1, h2, h3⟩ := n
  exact ⟨ro', h1, h.kp.then h3 (fun i hi _ => h.rn i hi), fun b hb => h2 b (Nat.lt_of_lt_of_le hb h.kp.size) (h.rn b hb), h.ms.kept h3 h2, h.ma.kept h3 h2, h.ne, h.s0, h.a0⟩
theorem KM.all {w0 w w' : World} {p : Nat} {ro : Nat → Role} {D : DS} {bs ba : Nat} {S L : List By} {vs va : List Value} (h : KM w0 w p ro D bs ba S L vs va) (k : Kp All w w') : KM w0 w' p ro D bs ba S L vs va :=
  ⟨h.dk.all k, h.kp.trans k, h.rn, h.ms.kept k.all (fun _ _ h => h), h.ma.kept k.all (fun _ _ h => h), h.ne, h.s0, h.a0⟩
/-- the names lie from b, o on -/
def NS (A : Option Addr) (c : Nat) (names : List Nm) (w : World) : Prop := Sl A names.length c 1 (names.map Value.string) w
theorem NS.at {A : Option Addr} {c : Nat} {names : List Nm} {w : World} (h : NS A c names w) {k : Nat} {s : Nm} (hs : names[k]? = some s) : ∃ b o, A = some ⟨b, o, none⟩ ∧ w.cell? ⟨b, o + k, none⟩ = some (.string s) := by
  have hk := (List.getElem?_eq_some_iff.1 hs).1
  obtain ⟨b, o, e, hr⟩ := h.2.2 (by omega)
  exact ⟨b, o, e, hr k _ (by rw [List.getElem?_map, hs]; rfl)⟩

theorem elbs : El Try.prog 31 32 1 24 (.slice none 0 0) := ⟨Try.underlying31, by kernel_rfl, rfl, by decide, by decide⟩
theorem mk_rows (n : Nat) (hn : n ≤ 1000) (w : World) : (Instr.makeSlice 31 (.int .i64 (n : Int)) (.int .i64 (n : Int))).run Try.prog w = .ok (.slice (some ⟨w.heap.size, 0, none⟩) n n) (w.alloc (.cells (List.replicate n (Value.slice none 0 0)).toArray 32)) := by
  obtain ⟨i, hi, hz, hs, hb⟩ := info_parts elbs.info
  have := run_make (P := Try.prog) w 31 32 i (.slice none 0 0) elbs.sl hi hz .i64 .i64 (n : Int) (n : Int) (by omega) (by omega) (by rw [hb]; omega) (by omega)
  rw [this, hs, Int.toNat_natCast, Nat.mul_one]
  have h : madeCells (Value.cells (.slice none 0 0)) n = (List.replicate n (Value.slice none 0 0)).toArray := by
    have := toList_madeCells_one (.slice none 0 0) n
    rw [← this]; rfl
  rw [h]
theorem Mm.made {w : World} {ro : Nat → Role} {b n : Nat} (hb : w.heap[b]? = some (.cells (List.replicate n (Value.slice none 0 0)).toArray 32)) (hr : ro b = .none) : Mm w ro b (List.replicate n []) (List.replicate n (Value.slice none 0 0)) where
  blk := hb
  rb := hr
  len := by simp
  row := fun i v l h1 h2 => by
    obtain rfl := List.eq_of_mem_replicate (List.mem_of_getElem? h1)
    obtain rfl := List.eq_of_mem_replicate (List.mem_of_getElem? h2)
    exact ⟨World.ownsRow_nil _ _ _ _, by simp [Value.ownBlock]⟩
theorem KW.mono {names : List Nm} {D : DS} {S L : List By} {j T T' : Nat} (h : KW names D S L j T) (hT : T ≤ T') : KW names D S L j T' :=
  { h with size := fun l hl => by have := h.size l hl; omega }
theorem le_tot (xs : List A8) : xs.length ≤ tot xs := by
  induction xs with
  | nil => simp [tot]
  | cons x l ih => simp only [tot, List.map_cons, List.sum_cons, List.length_cons, wt] at ih ⊢; omega
theorem KM.copy {w0 w : World} {p : Nat} {ro : Nat → Role} {D : DS} {bs ba : Nat} {S L : List By} {vs va : List Value} {i : Nat} (h : KM w0 w p ro D bs ba (L.take i ++ S.drop i) L (va.take i ++ vs.drop i) va) (hS : S.length = L.length) (hvs : vs.length = va.length) {v : Value} (hv : va[i]? = some v) :
    KM w0 (w.setCell ⟨bs, i, none⟩ v) p ro D bs ba (L.take (i + 1) ++ S.drop (i + 1)) L (va.take (i + 1) ++ vs.drop (i + 1)) va := by
  have hi : i < va.length := (List.getElem?_eq_some_iff.1 hv).1
  have hvl : v = va[i] := by have := (List.getElem?_eq_some_iff.1 hv).2; exact this.symm
  have hil : i < L.length := by rw [← h.ma.len]; exact hi
  have hnd : ro bs = .none := h.ms.rb
  have k : Kp (fun z => z ≠ bs) w (w.setCell ⟨bs, i, none⟩ v) := (Kp.refl _ _).setOut (by simp) _
  have hne : ∀ z, ro z ≠ .none → z ≠ bs := fun z hz e => hz (e ▸ hnd)
  have e1 : (va.take i ++ vs.drop i).set i v = va.take (i + 1) ++ vs.drop (i + 1) := by
    rw [List.set_append_right _ _ (by rw [List.length_take]; omega), List.length_take, show i - min i va.length = 0 from by omega]
    rw [List.drop_eq_getElem_cons (by omega), List.set_cons_zero, List.take_add_one, hv]
    simp
  have e2 : (L.take i ++ S.drop i).set i L[i] = L.take (i + 1) ++ S.drop (i + 1) := by
    rw [List.set_append_right _ _ (by rw [List.length_take]; omega), List.length_take, show i - min i L.length = 0 from by omega]
    rw [List.drop_eq_getElem_cons (by omega), List.set_cons_zero, List.take_succ_eq_append_getElem hil, List.append_assoc]
    rfl
  have hown : ∀ (v : Value) (l : By), w.ownsRow 0 5 1 v l.length (u8s l) → (w.setCell ⟨bs, i, none⟩ va[i]).ownsRow 0 5 1 v l.length (u8s l) := by
    intro u l hu
    refine own_kept hu (hvl ▸ k) fun z hz e => ?_
    rcases own_at hu with ⟨rfl, _⟩ | ⟨g, cap, cur, rfl, hg, _⟩
    · cases hz
    · injection hz with hz
      simp only at hz
      rw [hz, e] at hg
      have := h.ms.blk
      rw [hg] at this
      injection this with this
      injection this with _ h3 _
      exact absurd h3 (by decide)
  subst hvl
  refine ⟨h.dk.kept k hne, h.kp.then k (fun z hz _ e => by have := h.s0; omega), h.rn, ⟨?_, hnd, ?_, ?_⟩, ⟨?_, h.ma.rb, h.ma.len, fun j u l h1 h2 => ?_⟩, h.ne, h.s0, h.a0⟩
  · rw [blk_set h.ms.blk i va[i], ← e1]
    simp
  · rw [← e1, ← e2, List.length_set, List.length_set]; exact h.ms.len
  · intro j u l h1 h2
    rw [← e1] at h1
    rw [← e2] at h2
    by_cases e : j = i
    · subst e
      rw [List.getElem?_set_self (by simp; omega)] at h1
      rw [List.getElem?_set_self (by simp; omega)] at h2
      injection h1 with h1
      injection h2 with h2
      subst h1 h2
      have := h.ma.row j va[j] L[j] (List.getElem?_eq_getElem hi) (List.getElem?_eq_getElem hil)
      exact ⟨hown _ _ this.1, this.2⟩
    · rw [List.getElem?_set_ne (Ne.symm e)] at h1
      rw [List.getElem?_set_ne (Ne.symm e)] at h2
      have := h.ms.row j u l h1 h2
      exact ⟨hown _ _ this.1, this.2⟩
  · exact k.heap h.ma.blk (Ne.symm h.ne)
  · have := h.ma.row j u l h1 h2
    exact ⟨hown _ _ this.1, this.2⟩
theorem KM.get {w0 w : World} {p : Nat} {ro : Nat → Role} {D : DS} {bs ba : Nat} {S L : List By} {vs va : List Value} (h : KM w0 w p ro D bs ba S L vs va) {i : Nat} (hi : i < L.length) :
    ∃ A l c, L[i]? = some l ∧ va[i]? = some (.slice A l.length c) ∧ w.cell? ⟨ba, i, none⟩ = some (.slice A l.length c) := by
  obtain ⟨v, hv⟩ : ∃ v, va[i]? = some v := ⟨_, List.getElem?_eq_getElem (by rw [h.ma.len]; exact hi)⟩
  obtain ⟨l, hl⟩ : ∃ l, L[i]? = some l := ⟨_, List.getElem?_eq_getElem hi⟩
  obtain ⟨A, c, rfl⟩ := own_shape (h.ma.row i v l hv hl).1
  exact ⟨A, l, c, hl, hv, by rw [blk_cell h.ma.blk]; simpa using hv⟩
theorem KM.gets {w0 w : World} {p : Nat} {ro : Nat → Role} {D : DS} {bs ba : Nat} {S L : List By} {vs va : List Value} (h : KM w0 w p ro D bs ba S L vs va) {i : Nat} (hi : i < S.length) :
    ∃ A l c, S[i]? = some l ∧ vs[i]? = some (.slice A l.length c) ∧ w.cell? ⟨bs, i, none⟩ = some (.slice A l.length c) := by
  obtain ⟨v, hv⟩ : ∃ v, vs[i]? = some v := ⟨_, List.getElem?_eq_getElem (by rw [h.ms.len]; exact hi)⟩
  obtain ⟨l, hl⟩ : ∃ l, S[i]? = some l := ⟨_, List.getElem?_eq_getElem hi⟩
  obtain ⟨A, c, rfl⟩ := own_shape (h.ms.row i v l hv hl).1
  exact ⟨A, l, c, hl, hv, by rw [blk_cell h.ms.blk]; simpa using hv⟩
theorem KM.upd {w0 w wF : World} {p : Nat} {ro : Nat → Role} {D : DS} {bs ba : Nat} {S L L' : List By} {vs va : List Value} (h : KM w0 w p ro D bs ba S L vs va) {i : Nat} {v : Value} {l : By}
    (hb : wF.heap[ba]? = some (.cells (va.set i v).toArray 32 (0, 0))) (k : Kp (fun z => z ≠ ba) w wF) (hv : wF.ownsRow 0 5 1 v l.length (u8s l)) (hz : ∀ z, v.ownBlock = some z → w.heap.size ≤ z)
    (hL : L' = L.set i l) : KM w0 wF p ro D bs ba S L' vs (va.set i v) := by
  subst hL
  have hnd : ro ba = .none := h.ma.rb
  have hrn : ∀ z, w.heap.size ≤ z → ro z = .none := by
    obtain ⟨m', fp', bv', BV', hD'⟩ := h.dk
    exact hD'.rnew
  have hown : ∀ (u : Value) (l : By), w.ownsRow 0 5 1 u l.length (u8s l) → wF.ownsRow 0 5 1 u l.length (u8s l) := by
    intro u l hu
    refine own_kept hu k fun z hz e => ?_
    rcases own_at hu with ⟨rfl, _⟩ | ⟨g, cap, cur, rfl, hg, _⟩
    · cases hz
    · injection hz with hz
      simp only at hz
      rw [hz, e] at hg
      have := h.ma.blk
      rw [hg] at this
      injection this with this
      injection this with _ h3 _
      exact absurd h3 (by decide)
  refine ⟨h.dk.kept k fun z hz e => hz (e ▸ hnd), h.kp.then k (fun z hz _ e => by have := h.a0; omega), h.rn, ⟨k.heap h.ms.blk h.ne, h.ms.rb, h.ms.len, fun j u l h1 h2 => ?_⟩, ⟨hb, hnd, by rw [List.length_set, List.length_set]; exact h.ma.len, fun j u l h1 h2 => ?_⟩, h.ne, h.s0, h.a0⟩
  · have := h.ms.row j u l h1 h2
    exact ⟨hown _ _ this.1, this.2⟩
  · by_cases e : j = i
    · subst e
      have hj : j < va.length := by have := (List.getElem?_eq_some_iff.1 h1).1; simpa using this
      rw [List.getElem?_set_self hj] at h1
      rw [List.getElem?_set_self (by rw [← h.ma.len]; exact hj)] at h2
      injection h1 with h1
      injection h2 with h2
      subst h1 h2
      exact ⟨hv, fun z h => hrn z (hz z h)⟩
    · rw [List.getElem?_set_ne (Ne.symm e)] at h1
      rw [List.getElem?_set_ne (Ne.symm e)] at h2
      have := h.ma.row j u l h1 h2
      exact ⟨hown _ _ this.1, this.2⟩
theorem bl_ne {s t : Nm} (h : s ≠ t) : ¬ s.toList = t.toList := fun e => h (by
  rw [ByteArray.toList_eq, ByteArray.toList_eq] at e
  cases s; cases t
  simp only [Array.toList_inj] at e
  subst e; rfl)
theorem own0 {w : World} {base e sz n : Nat} {v : Value} {xs : List Value} (h : w.ownsRow base e sz v n xs) : w.ownsRow 0 e sz v n xs := by
  refine ⟨h.1, ?_⟩
  rcases h.2 with hn | ⟨g, cap, cur, rfl, hb, rest⟩
  · exact .inl hn
  · exact .inr ⟨g, cap, cur, rfl, Nat.zero_le _, rest⟩
theorem sl_str {w : World} {A : Option Addr} {n c : Nat} {l : By} (h : Sl A n c 1 (u8s l) w) (hl : l.length = n) : (convert 32 9 (.slice A n c)).run Try.prog w = .ok (.string ⟨l.toArray⟩) w := by
  cases A with
  | none =>
    have hn : n = 0 := by
      rcases Nat.eq_zero_or_pos n with h0 | h0
      · exact h0
      · obtain ⟨_, _, e, _⟩ := h.2.2 h0; cases e
    subst hn
    have : l = [] := List.eq_nil_of_length_eq_zero hl
    subst this
    exact run_convert_bytes_nil w _ _ Try.underlying32 Try.underlying5 0 c _ Try.underlying9
  | some a =>
    subst hl
    refine run_convert_bytes_back w _ _ _ a c l Try.underlying32 Try.underlying5 Try.underlying9 fun j hj => ?_
    obtain ⟨b, o, e, hr⟩ := h.2.2 (by omega)
    injection e with e
    subst e
    rw [add_lit0]
    exact hr j _ (by simp [u8s, hj])
def leftN (names : List Nm) (T : List (Nm × By)) (i : Nat) : Nat := ((firsts names i).map fun n => moreOf T n).sum
theorem leftN_skip {names : List Nm} {T : List (Nm × By)} {i : Nat} {s : Nm} (hs : names[i]? = some s) (h : (goodB s && !again names i s) = false) : leftN names T (i + 1) = leftN names T i := by
  unfold leftN
  rw [firsts, hs]
  simp only [h, Bool.false_eq_true, if_false, List.append_nil]
theorem leftN_put {names : List Nm} {T : List (Nm × By)} {i : Nat} {s : Nm} (hs : names[i]? = some s) (h : (goodB s && !again names i s) = true) : leftN names T (i + 1) = leftN names T i + moreOf T s := by
  unfold leftN
  rw [firsts, hs]
  simp only [h, if_true, List.map_append, List.sum_append, List.map_cons, List.map_nil, List.sum_cons, List.sum_nil, Nat.add_zero]
theorem leftN_le (names : List Nm) (T : List (Nm × By)) (i : Nat) : ∀ d, leftN names T i ≤ leftN names T (i + d)
  | 0 => Nat.le_refl _
  | d + 1 => by
    refine Nat.le_trans (leftN_le names T i d) ?_
    unfold leftN
    rw [← Nat.add_assoc, firsts, List.map_append, List.sum_append]
    omega
theorem again_succ {names : List Nm} {i : Nat} {s t : Nm} (ht : names[i]? = some t) : again names (i + 1) s = (again names i s || decide (s = t)) := by
  unfold again
  rw [List.take_add_one, ht, List.any_append]
  simp
theorem updL_at (names : List Nm) (a : Nm) (d : By) (L : List By) (i : Nat) : (updL names a d L i)[i]? = L[i]? := by
  rw [updL, List.getElem?_mapIdx]
  cases L[i]? <;> simp
theorem updL_zero (names : List Nm) (a : Nm) (d : By) (L : List By) : updL names a d L 0 = L := by
  apply List.ext_getElem?
  intro i
  rw [updL, List.getElem?_mapIdx]
  cases L[i]? <;> simp
theorem updL_skip {names : List Nm} {a : Nm} {d : By} {L : List By} {i : Nat} {s : Nm} (hs : names[i]? = some s) (h : ¬ (s = a ∧ goodB s = true)) : updL names a d L (i + 1) = updL names a d L i := by
  apply List.ext_getElem?
  intro k
  rw [updL, updL, List.getElem?_mapIdx, List.getElem?_mapIdx]
  cases L[k]? with
  | none => rfl
  | some l =>
    simp only [Option.map_some, Option.some.injEq]
    by_cases e : k = i
    · subst e
      rw [if_neg (fun c => by obtain ⟨_, c2, c3⟩ := c; rw [hs] at c2; injection c2 with c2; exact h ⟨c2, c2 ▸ c3⟩), if_neg (fun c => by omega)]
    · by_cases e2 : k < i
      · have : k < i + 1 := by omega
        simp [e2, this]
      · have : ¬ k < i + 1 := by omega
        simp [e2, this]
theorem updL_put {names : List Nm} {a : Nm} {d : By} {L : List By} {i : Nat} {l : By} (hs : names[i]? = some a) (hg : goodB a = true) (hl : (updL names a d L i)[i]? = some l) : updL names a d L (i + 1) = (updL names a d L i).set i (l ++ d) := by
  have hi : i < L.length := by have := (List.getElem?_eq_some_iff.1 hl).1; simpa [updL] using this
  apply List.ext_getElem?
  intro k
  by_cases e : k = i
  · subst e
    rw [List.getElem?_set_self (by simpa [updL] using hi)]
    rw [updL, List.getElem?_mapIdx] at hl ⊢
    rw [List.getElem?_eq_getElem hi] at hl ⊢
    simp only [Option.map_some, Option.some.injEq] at hl ⊢
    rw [if_neg (by omega)] at hl
    rw [if_pos ⟨by omega, hs, hg⟩, hl]
  · rw [List.getElem?_set_ne (Ne.symm e), updL, updL, List.getElem?_mapIdx, List.getElem?_mapIdx]
    cases L[k]? with
    | none => rfl
    | some l =>
      simp only [Option.map_some, Option.some.injEq]
      by_cases e2 : k < i
      · have : k < i + 1 := by omega
        simp [e2, this]
      · have : ¬ k < i + 1 := by omega
        simp [e2, this]
theorem there_succ {names : List Nm} {a : Nm} {i : Nat} {s : Nm} (hs : names[i]? = some s) : there names a (i + 1) = (there names a i || (decide (s = a) && goodB s)) := by
  unfold there
  rw [List.take_add_one, hs, List.any_append]
  simp
/-- the world of the writes' loop -/
def KL (w0 w : World) (p : Nat) (names : List Nm) (xs : List A8) (bs ba j pd : Nat) : Prop :=
  ∃ ro D S L vs va, KM w0 w p ro D bs ba S L vs va ∧ KW names D S L j (tot (xs.take j)) ∧ pend D.B = pd
set_option maxRecDepth 100000 in
set_option maxHeartbeats 4000000 in
theorem keeps_true (NA : Option Addr) (nc : Nat) (names : List Nm) (nn : Nat) (hnn : names.length = nn) (A : Option Addr) (c : Nat) (xs : List A8) (n : Nat) (hn : xs.length = n) (keep : Int) (hkeep : keep ≤ 9223372036854775807) (w : World)
    (hN : Foot All (NS NA nc names) w) (hnl : nn ≤ 140737488351232) (hns : ∀ s ∈ names, s.size ≤ 140737488351232) (hs : Foot All (AS A xs) w) (hl : n ≤ 140737488351232) (hf : ∀ x ∈ xs, fine8 x) :
    Calls Try.prog 4 #[.slice NA nn nc, .slice A n c, .int .i64 keep] w (Boo true w) := by
  have HNS := hid hN; have HNN := hid hnn; have HNZ := hid hns; have HS := hid hs; have HN := hid hn; have HF := hid hf
  clear hN hnn hns hs hn hf
  obtain ⟨fb, hfb⟩ : ∃ fb, decide (tot xs ≤ 300) = fb := ⟨_, rfl⟩
  have HFB := hid hfb
  clear hfb
  go_enter Try.func4, Try.ntmps4
  go_wp2_with fail
  refine (few_any A c xs n HN.out w HS.out hl HF.out).mono ?_
  rw [HFB.out]
  rintro e w1 ⟨rfl, hk1⟩
  have HK1 := hid hk1
  clear hk1
  cases fb with
  | false =>
    go_wp2_with fail
    refine (lives_true _).mono ?_
    rintro e w2 ⟨rfl, hk⟩
    have HK := hid hk
    clear hk
    go_wp2_with fail
    go_ret
    exact ⟨rfl, HK1.out.trans HK.out⟩
  | true =>
  by_cases h8 : 8 < nn
  · have h8i : (8 : Int) < (nn : Int) := by omega
    go_wp2_with fail
    refine (lives_true _).mono ?_
    rintro e w2 ⟨rfl, hk⟩
    have HK := hid hk
    clear hk
    go_wp2_with fail
    go_ret
    exact ⟨rfl, HK1.out.trans HK.out⟩
  have h8i : (nn : Int) ≤ 8 := by omega
  have h8n : nn ≤ 8 := by omega
  have h8d : decide ((8 : Int) < (nn : Int)) = false := decide_eq_false (by omega)
  clear h8
  go_wp2_with fail
  refine (dnew_any 100000 (by omega) (by omega) w1).mono ?_
  rintro e w2 ⟨⟨p, ro0, rfl, hd0, hro0⟩, hk2⟩
  have HD0 := hid hd0; have HK2 := hid (HK1.out.trans hk2); have HR0 : Hid (∀ b, b < w.heap.size → ro0 b = .none) := hid fun b hb => hro0 b (Nat.lt_of_lt_of_le hb HK1.out.size)
  clear hd0 hk2 hro0
  go_wp2_with fail
  go_loopw [44] (fun i wr => ∃ (k : Nat) (D : DS) (ro : Nat → Role), k ≤ nn ∧ i = .int .i64 k ∧ Hid (KD names k D) ∧ Hid (Dk wr p ro D) ∧ Hid (∀ b, b < w.heap.size → ro b = .none) ∧ Hid (Kp All w wr)) (fun i _ => nn - (intOf i).toNat)
  case atStart => exact ⟨0, _, ro0, Nat.zero_le _, rfl, ⟨rfl, rfl, rfl, rfl, by decide, by decide, rfl, by simp, by simp, Nat.le_refl _⟩, HD0.out, HR0.out, HK2.out⟩
  case round =>
    obtain ⟨k, D, ro, hk, rfl, hKD, hDk, hRo, hkp⟩ := hrel
    by_cases hlt : k < nn
    · have hb0 : decide ((k : Int) < (nn : Int)) = true := decide_eq_true (by omega)
      have i0 : (0 : Int) ≤ (k : Int) := by omega
      have i1 : (k : Int) < (nn : Int) := by omega
      obtain ⟨s, hs⟩ : ∃ s, names[k]? = some s := ⟨_, List.getElem?_eq_getElem (by rw [HNN.out]; exact hlt)⟩
      have hsz := HNZ.out s (List.mem_of_getElem? hs)
      obtain ⟨b, o, rfl, hc⟩ := NS.at (HNS.out wr hkp.out) hs
      have HSS := hid hs
      clear hs
      by_cases h30 : 30 < s.size
      · have h30i : (30 : Int) < (s.size : Int) := by omega
        go_wp2_with fail
        refine (lives_true _).mono ?_
        rintro e w2 ⟨rfl, hk⟩
        have HK := hid hk
        clear hk
        go_wp2_with fail
        go_ret
        exact ⟨rfl, hkp.out.trans HK.out⟩
      · have h30i : (s.size : Int) ≤ 30 := by omega
        obtain ⟨hce, hcd⟩ := hKD.out.create HSS.out (by omega)
        obtain ⟨g, hg⟩ : ∃ g, goodB s = g := ⟨_, rfl⟩
        rw [hg] at hce
        have HG := hid hg; have HCD := hid hcd; have HCE := hid hce
        clear hce hcd hg
        have hdok : D.Ok := ⟨hKD.out.o0, by have := hKD.out.o1; omega, by rw [hKD.out.fails]; decide, by rw [hKD.out.B]; decide⟩
        have HOK := hid hdok
        clear hdok
        go_wp2_with fail
        refine (create_any p ro D HOK.out s (by omega) wr hDk.out).mono ?_
        rw [HCE.out]
        rintro e w3 ⟨rfl, ro3, hd3, hr3, hk3⟩
        have HD3 := hid hd3
        have HR3 : Hid (∀ b, b < w.heap.size → ro3 b = .none) := hid fun b hb => hr3 b (Nat.lt_of_lt_of_le hb hkp.out.size) (hRo.out b hb)
        have HK3 := hid (hkp.out.then hk3 (fun i hi _ => hRo.out i hi))
        clear hd3 hr3 hk3
        cases g <;> (go_wp2_with fail; refine (good_any s (by omega) w3).mono ?_; rw [HG.out]; rintro e w4 ⟨rfl, rfl⟩; go_wp2_with fail; exact ⟨⟨k + 1, creD D s, ro3, by omega, by go_num, HCD.out, HD3.out, HR3.out, HK3.out⟩, by simp [intOf]; omega⟩)
    · have hb0 : decide ((k : Int) < (nn : Int)) = false := decide_eq_false (by omega)
      obtain rfl : k = nn := by omega
      have hmk := fun w => mk_rows k (by omega) w
      obtain ⟨mD, mfp, mbv, mBV, hD0⟩ := hDk.out
      have hnd : (D.F.map (·.1)).Nodup := by
        have := hD0.map.nodup strKey
        simpa [List.map_map, Function.comp_def] using this
      have HST : Hid (KL w ((wr.alloc (.cells (List.replicate k (Value.slice none 0 0)).toArray 32)).alloc (.cells (List.replicate k (Value.slice none 0 0)).toArray 32)) p names xs wr.heap.size (wr.heap.size + 1) 0 0) := hid (by
        have x1 := blk_alloc (blk_new wr (.cells (List.replicate k (Value.slice none 0 0)).toArray 32)) (.cells (List.replicate k (Value.slice none 0 0)).toArray 32)
        have x2 := blk_new (wr.alloc (.cells (List.replicate k (Value.slice none 0 0)).toArray 32)) (.cells (List.replicate k (Value.slice none 0 0)).toArray 32)
        rw [World.size_alloc] at x2
        refine ⟨ro, D, List.replicate k [], List.replicate k [], List.replicate k (Value.slice none 0 0), List.replicate k (Value.slice none 0 0), ⟨hDk.out.all ((Kp.al _ _).alloc _), (hkp.out.alloc _).alloc _, hRo.out, Mm.made x1 (hD0.rnew _ (Nat.le_refl _)), Mm.made x2 (hD0.rnew _ (by omega)), by omega, hkp.out.size, by have := hkp.out.size; omega⟩, ?_, ?_⟩
        · have h := KD.start (names := names) (D := D) (by rw [HNN.out]; exact hKD.out) (by rw [HNN.out]; exact h8n) hnd
          rw [HNN.out] at h
          exact h
        · rw [hKD.out.B]; rfl)
      have H0S : Hid (w.heap.size ≤ wr.heap.size) := hid hkp.out.size
      clear hnd hD0 mD mfp mbv mBV hKD hDk hRo hkp
      go_wp2_with fail
      obtain ⟨W0, hW0⟩ : ∃ W0, W0 = (wr.alloc (.cells (List.replicate k (Value.slice none 0 0)).toArray 32)).alloc (.cells (List.replicate k (Value.slice none 0 0)).toArray 32) := ⟨_, rfl⟩
      rw [← hW0] at HST
      simp only [List.replicate_succ, List.toArray_replicate] at hW0
      rw [← hW0]
      obtain ⟨bs, hbs⟩ : ∃ z, wr.heap.size = z := ⟨_, rfl⟩
      rw [hbs] at HST H0S ⊢
      obtain ⟨ba, hba⟩ : ∃ z, bs + 1 = z := ⟨_, rfl⟩
      rw [hba] at HST ⊢
      clear hW0 hbs hmk
      have hfew : Hid (tot xs ≤ 300) := hid (of_decide_eq_true HFB.out)
      go_loopw [13, 69] (fun pp jj w' => ∃ j pd : Nat, j ≤ n ∧ jj = .int .i64 j ∧ pp = .int .i64 pd ∧ Hid (KL w w' p names xs bs ba j pd)) (fun _ jj _ => n - (intOf jj).toNat)
      case atStart => exact ⟨0, 0, Nat.zero_le _, rfl, rfl, HST.out⟩
      case round =>
        obtain ⟨j, pd, hj, rfl, rfl, hKL⟩ := hrel
        by_cases hlt2 : j < n
        · have hb1 : decide ((j : Int) < (n : Int)) = true := decide_eq_true (by omega)
          have j0 : (0 : Int) ≤ (j : Int) := by omega
          have j1 : (j : Int) < (n : Int) := by omega
          obtain ⟨x, hx⟩ : ∃ x, xs[j]? = some x := ⟨_, List.getElem?_eq_getElem (by rw [HN.out]; exact hlt2)⟩
          have hjt : j ≤ tot (xs.take j) := by
            have := le_tot (xs.take j)
            rw [List.length_take] at this
            have := HN.out
            omega
          have htk := tot_take hx
          have htl := tot_take_le xs (j + 1)
          obtain ⟨ro, D, S, L, vs, va, hKM, hKW, hpd⟩ := hKL.out
          have hfx := HF.out x (List.mem_of_getElem? hx)
          obtain ⟨b, o, rfl, hA⟩ := HS.out wr hKM.kp (by rw [HN.out]; omega)
          have hc := (hA j x hx).1
          have hdat : Foot (fun z => ro z = .none) (Sl x.A x.data.length x.c 1 (u8s x.data)) (wr.alloc (.cells (a8cells x).toArray 34)) := by
            intro u hu
            obtain ⟨b', o', e', hA'⟩ := HS.out u ((hKM.kp.alloc _).then hu (fun i hi _ => hKM.rn i hi)) (by rw [HN.out]; omega)
            exact (hA' j x hx).2
          have d0 := hc 0 _ rfl; have d1 := hc 1 _ rfl; have d2 := hc 2 _ rfl; have d3 := hc 3 _ rfl; have d4 := hc 4 _ rfl; have d5 := hc 5 _ rfl
          rw [Nat.add_zero] at d0
          obtain ⟨f1, f2, f3⟩ := hfx
          have hKM1 := hKM.all (Kp.al wr (.cells (a8cells x).toArray 34))
          have hbx := blk_new wr (.cells (a8cells x).toArray 34)
          have hrx : ro wr.heap.size = .none := by
            obtain ⟨m', fp', bv', BV', hD'⟩ := hKM.dk
            exact hD'.rnew _ (Nat.le_refl _)
          have HBX := hid hbx
          have cbx := blk_cell hbx
          unfold a8cells at cbx
          have hok := hKW.ok (by have := hfew.out; omega)
          have hba2 : ba < wr.heap.size := blk_lt hKM.ma.blk
          have HX := hid hx; have HKM := hid hKM1; have HKW := hid hKW; have HPD := hid hpd; have HTK := hid htk; have HTL := hid htl; have HDAT := hid hdat; have HOK := hid hok; have HRX := hid hrx
          clear hc hA hx hKM hKM1 hKW hpd htk htl hdat hbx hKL hok hrx
          by_cases h2 : x.kind = 2
          · have hb2 : (x.kind == 2) = true := beq_iff_eq.2 h2
            clear h2
            obtain ⟨hse, hsd, hsb⟩ := HKW.out.sync
            have HSD := hid hsd; have HSE := hid hse; have HSB := hid hsb
            clear hse hsd hsb
            go_wp2_with fail
            refine (sync_any p ro D HOK.out _ HKM.out.dk).mono ?_
            rw [HSE.out]
            rintro e w3 ⟨rfl, hnx⟩
            obtain ⟨ro3, hkm3⟩ := HKM.out.next hnx
            have HM3 := hid hkm3
            have HBX3 := hid (hnx.kp.heap HBX.out HRX.out)
            clear hnx hkm3
            go_wp2_with fail
            refine (pend_any p ro3 (syncD D) w3 HM3.out.dk).mono ?_
            have hz0 : (if (syncD D).off then 0 else pend (syncD D).B) = 0 := by rw [HSB.out]; split <;> rfl
            rw [hz0]
            rintro e w4 ⟨rfl, hk4⟩
            have HM4 := hid (HM3.out.all hk4)
            clear hk4 hz0
            go_wp2_with fail
            go_loopw [86] (fun ii w' => ∃ i : Nat, i ≤ k ∧ ii = .int .i64 i ∧ Hid (KM w w' p ro3 (syncD D) bs ba (L.take i ++ S.drop i) L (va.take i ++ vs.drop i) va)) (fun ii _ => k - (intOf ii).toNat)
            case atStart => exact ⟨0, Nat.zero_le _, rfl, by simpa [Hid] using HM4.out⟩
            case round =>
              obtain ⟨i, hi, rfl, hM⟩ := hrel
              have hSl : S.length = k := by rw [HKW.out.sl, HNN.out]
              have hLl : L.length = k := by rw [HKW.out.ll, HNN.out]
              have hvl : vs.length = va.length := by rw [HM4.out.ms.len, HM4.out.ma.len, hSl, hLl]
              by_cases hik : i < k
              · have hb3 : decide ((i : Int) < (k : Int)) = true := decide_eq_true (by omega)
                have i0 : (0 : Int) ≤ (i : Int) := by omega
                have i1 : (i : Int) < (k : Int) := by omega
                obtain ⟨VA, l, VC, hl, hv, hca⟩ := hM.out.get (i := i) (by rw [hLl]; exact hik)
                obtain ⟨_, _, _, _, _, hcs⟩ := hM.out.gets (i := i) (by simp [hSl, hLl]; omega)
                have hfs := blk_free hM.out.ms.blk
                have HC : Hid (KM w (wr.setCell ⟨bs, i, none⟩ (.slice VA l.length VC)) p ro3 (syncD D) bs ba (L.take (i + 1) ++ S.drop (i + 1)) L (va.take (i + 1) ++ vs.drop (i + 1)) va) := hid (hM.out.copy (by rw [hSl, hLl]) hvl hv)
                clear hl hv hSl hLl hvl
                go_wp2_with fail
                exact ⟨⟨i + 1, by omega, by go_num, HC.out⟩, by simp [intOf]; omega⟩
              · have hb3 : decide ((i : Int) < (k : Int)) = false := decide_eq_false (by omega)
                obtain rfl : i = k := by omega
                have hfin : KM w wr p ro3 (syncD D) bs ba L L va va := by
                  have h := hM.out
                  rw [List.take_of_length_le (by omega), List.take_of_length_le (by rw [← hvl, HM4.out.ms.len]; omega), List.drop_of_length_le (by omega), List.drop_of_length_le (by rw [HM4.out.ms.len]; omega), List.append_nil, List.append_nil] at h
                  exact h
                have HFIN := hid hfin
                clear hSl hLl hvl hfin hM
                go_wp2_with fail
                exact ⟨⟨j + 1, 0, by omega, by go_num, rfl, ro3, syncD D, L, L, va, va, HFIN.out, by rw [HTK.out]; exact HSD.out.mono (by omega), by rw [HSB.out]; rfl⟩, by simp [intOf]; omega⟩
          · have hb2 : (x.kind == 2) = false := beq_eq_false_iff_ne.2 h2
            clear h2
            obtain ⟨th, hth⟩ : ∃ th, there names x.a names.length = th := ⟨_, rfl⟩
            have hwt : x.data.length ≤ 50 * wt x := by unfold wt; omega
            have happ : Hid (appErr D x.a x.data = (if th then 0 else 4) ∧ KW names (appD D x.a x.data) S (updL names x.a x.data L names.length) (j + 1) (tot (xs.take (j + 1))) ∧ pend (appD D x.a x.data).B = pd + (if th then x.data.length else 0)) := hid (by
              rw [HTK.out, ← HPD.out]
              cases th with
              | true => exact HKW.out.app_yes hwt (by have := HTL.out; have := HTK.out; have := hfew.out; omega) hth
              | false => exact HKW.out.app_no hth)
            have HTH := hid hth
            have hdl : x.data.length ≤ 549755813888 := by have := HTL.out; have := HTK.out; have := hfew.out; omega
            clear hth hwt
            go_wp2_with fail
            refine (append_any p ro D HOK.out x.a x.data x.A x.c _ (by exact HKM.out.dk) (by exact HDAT.out) hdl).mono ?_
            obtain ⟨ev, hev⟩ : ∃ ev : Int, appErr D x.a x.data = ev := ⟨_, rfl⟩
            rw [hev]
            have HEV := hid hev
            clear hev
            rintro e w3 ⟨rfl, hnx⟩
            obtain ⟨ro3, hkm3⟩ := HKM.out.next hnx
            have HM3 := hid hkm3
            have HBX3 := hid (hnx.kp.heap HBX.out HRX.out)
            obtain ⟨bx, hbx⟩ : ∃ z, wr.heap.size = z := ⟨_, rfl⟩
            have hbxa : bx ≠ ba := by omega
            rw [hbx] at HBX3 ⊢
            clear hnx hkm3 cbx hbx
            go_wp2_with fail
            go_loopw [18, 105] (fun tt ii w' => ∃ (i : Nat) (va' : List Value), i ≤ k ∧ ii = .int .i64 i ∧ tt = .bool (there names x.a i) ∧ Hid (KM w w' p ro3 (appD D x.a x.data) bs ba S (updL names x.a x.data L i) vs va') ∧ Hid (w'.heap[bx]? = some (.cells (a8cells x).toArray 34))) (fun _ ii _ => k - (intOf ii).toNat)
            case atStart => exact ⟨0, va, Nat.zero_le _, rfl, rfl, by rw [updL_zero]; exact HM3.out, HBX3.out⟩
            case round =>
              obtain ⟨i, va', hi, rfl, rfl, hM, hX⟩ := hrel
              obtain ⟨ti, hti⟩ : ∃ ti, there names x.a i = ti := ⟨_, rfl⟩
              rw [hti]
              have HTI := hid hti
              clear hti
              by_cases hik : i < k
              · have hb3 : decide ((i : Int) < (k : Int)) = true := decide_eq_true (by omega)
                have i0 : (0 : Int) ≤ (i : Int) := by omega
                have i1 : (i : Int) < (k : Int) := by omega
                obtain ⟨s, hs⟩ : ∃ s, names[i]? = some s := ⟨_, List.getElem?_eq_getElem (by rw [HNN.out]; exact hik)⟩
                have hsz := HNZ.out s (List.mem_of_getElem? hs)
                obtain ⟨bN, oN, rfl, hcN⟩ := NS.at (HNS.out wr hM.out.kp) hs
                have hth' := there_succ (a := x.a) hs
                rw [HTI.out] at hth'
                have HSS := hid hs; have HTHS := hid hth'
                have cbx := blk_cell hX.out
                unfold a8cells at cbx
                clear hs hth'
                by_cases hsa : s = x.a
                · subst hsa
                  obtain ⟨g, hg⟩ : ∃ g, goodB x.a = g := ⟨_, rfl⟩
                  have HG := hid hg
                  clear hg
                  go_wp2_with fail
                  refine (good_any x.a (by omega) wr).mono ?_
                  rw [HG.out]
                  rintro e w4 ⟨rfl, rfl⟩
                  cases g with
                  | false =>
                    go_wp2_with fail
                    exact ⟨⟨i + 1, va', by omega, by go_num, by rw [HTHS.out, HG.out]; simp, by rw [updL_skip HSS.out (by rw [HG.out]; simp)]; exact hM.out, hX.out⟩, by simp [intOf]; omega⟩
                  | true =>
                    go_wp2_with fail
                    obtain ⟨VA, l, VC, hl, hv, hca⟩ := hM.out.get (i := i) (by simp only [updL, List.length_mapIdx]; rw [HKW.out.ll, HNN.out]; exact hik)
                    have hll : l.length ≤ 15000 := by
                      have h1 := hl
                      rw [updL_at] at h1
                      have := HKW.out.size l (List.mem_of_getElem? h1)
                      have := HTL.out; have := HTK.out; have := hfew.out
                      omega
                    have hdl2 : x.data.length ≤ 15000 := by
                      have : x.data.length ≤ 50 * wt x := by unfold wt; omega
                      have := HTL.out; have := HTK.out; have := hfew.out
                      omega
                    obtain ⟨hrow, hrw⟩ := hM.out.ma.row i _ l hv hl
                    have hSL : Foot All (Sl VA l.length VC 1 (u8s l)) wr := fun u hu => by
                      have h2 := (own_sl (own_kept hrow hu (fun _ _ => trivial)) (Nat.le_refl l.length)).1
                      rwa [List.take_of_length_le (by simp)] at h2
                    have hSD : Foot All (Sl x.A x.data.length x.c 1 (u8s x.data)) wr := fun u hu => by
                      obtain ⟨_, _, _, hA'⟩ := HS.out u (hM.out.kp.trans hu) (by rw [HN.out]; omega)
                      exact (hA' j x HX.out).2
                    have hbl : ba < wr.heap.size := blk_lt hM.out.ma.blk
                    have hxl : bx < wr.heap.size := blk_lt hX.out
                    have hcx : wr.cell? ⟨bx, 3, none⟩ = some (.slice x.A x.data.length x.c) := by rw [cbx]; rfl
                    have hbs0 := fun (w : World) => run_build0 (w := w) el8
                    have HL := hid hl; have HV := hid hv; have HSL := hid hSL; have HSD := hid hSD
                    clear hl hv hrow hrw hSL hSD cbx
                    refine RegionLast.wp_region_end_held (S := fun w' => w'.cell? ⟨ba, i, none⟩ = some (.slice VA l.length VC) ∧ w'.cell? ⟨bx, 3, none⟩ = some (.slice x.A x.data.length x.c)) (by kernel_rfl) (by kernel_rfl) ⟨hca, hcx⟩ (fun hHeld => ?_)
                    simp only [List.length_cons, List.length_nil, Nat.zero_add, Nat.reduceAdd, Nat.reduceSub, List.take_succ_cons, List.take_zero, List.drop_succ_cons, List.drop_zero]
                    (refine wpAnyH_take (i := 0) (oi := _) (v := ?_) (by (simp only [List.getElem?_toArray, List.getElem?_cons_succ, List.getElem?_cons_zero]); rfl) (by kernel_rfl) (by kernel_rfl) (by kernel_rfl) (by exact fun _ _ _ h => h) (Or.inl ⟨by rfl, ?_⟩) (by assumption) ?_; rotate_left; focus ((intro w hSw; (try dsimp only at hSw); go_simp) <;> with_reducible rfl); (try simp only [Act.put, List.getElem_toArray, List.getElem_cons_succ, List.getElem_cons_zero, List.setIfInBounds_toArray, List.set_cons_zero, List.set_cons_succ]))
                    (refine wpAnyH_take (i := 1) (oi := _) (v := ?_) (by (simp only [List.getElem?_toArray, List.getElem?_cons_succ, List.getElem?_cons_zero]); rfl) (by kernel_rfl) (by kernel_rfl) (by kernel_rfl) (by exact fun _ _ _ h => h) (Or.inl ⟨by rfl, ?_⟩) (by assumption) ?_; rotate_left; focus ((intro w hSw; (try dsimp only at hSw); go_simp) <;> with_reducible rfl); (try simp only [Act.put, List.getElem_toArray, List.getElem_cons_succ, List.getElem_cons_zero, List.setIfInBounds_toArray, List.set_cons_zero, List.set_cons_succ]))
                    (refine wpAnyH_take (i := 3) (oi := _) (v := ?_) (by (simp only [List.getElem?_toArray, List.getElem?_cons_succ, List.getElem?_cons_zero]); rfl) (by kernel_rfl) (by kernel_rfl) (by kernel_rfl) (by exact fun _ _ _ h => h) (Or.inl ⟨by rfl, ?_⟩) (by assumption) ?_; rotate_left; focus ((intro w hSw; (try dsimp only at hSw); go_simp) <;> with_reducible rfl); (try simp only [Act.put, List.getElem_toArray, List.getElem_cons_succ, List.getElem_cons_zero, List.setIfInBounds_toArray, List.set_cons_zero, List.set_cons_succ]))
                    (refine wpAnyH_take (i := 4) (oi := _) (v := ?_) (by (simp only [List.getElem?_toArray, List.getElem?_cons_succ, List.getElem?_cons_zero]); rfl) (by kernel_rfl) (by kernel_rfl) (by kernel_rfl) (by exact fun _ _ _ h => h) (Or.inl ⟨by rfl, ?_⟩) (by assumption) ?_; rotate_left; focus ((intro w hSw; (try dsimp only at hSw); go_simp) <;> with_reducible rfl); (try simp only [Act.put, List.getElem_toArray, List.getElem_cons_succ, List.getElem_cons_zero, List.setIfInBounds_toArray, List.set_cons_zero, List.set_cons_succ]))
                    (refine wpAnyH_take (i := 5) (oi := _) (v := ?_) (by (simp only [List.getElem?_toArray, List.getElem?_cons_succ, List.getElem?_cons_zero]); rfl) (by kernel_rfl) (by kernel_rfl) (by kernel_rfl) (by exact fun _ _ _ h => h) (Or.inl ⟨by rfl, ?_⟩) (by assumption) ?_; rotate_left; focus ((intro w hSw; (try dsimp only at hSw); go_simp) <;> with_reducible rfl); (try simp only [Act.put, List.getElem_toArray, List.getElem_cons_succ, List.getElem_cons_zero, List.setIfInBounds_toArray, List.set_cons_zero, List.set_cons_succ]))
                    (refine wpAnyH_take (i := 6) (oi := _) (v := ?_) (by (simp only [List.getElem?_toArray, List.getElem?_cons_succ, List.getElem?_cons_zero]); rfl) (by kernel_rfl) (by kernel_rfl) (by kernel_rfl) (by exact fun _ _ _ h => h) (Or.inl ⟨by rfl, ?_⟩) (by assumption) ?_; rotate_left; focus ((intro w hSw; (try dsimp only at hSw); go_simp) <;> with_reducible rfl); (try simp only [Act.put, List.getElem_toArray, List.getElem_cons_succ, List.getElem_cons_zero, List.setIfInBounds_toArray, List.set_cons_zero, List.set_cons_succ]))
                    (refine wpAnyH_take (i := 8) (oi := _) (v := ?_) (by (simp only [List.getElem?_toArray, List.getElem?_cons_succ, List.getElem?_cons_zero]); rfl) (by kernel_rfl) (by kernel_rfl) (by kernel_rfl) (by exact fun _ _ _ h => h) (Or.inl ⟨by rfl, ?_⟩) (by assumption) ?_; rotate_left; focus ((intro w hSw; (try dsimp only at hSw); go_simp) <;> with_reducible rfl); (try simp only [Act.put, List.getElem_toArray, List.getElem_cons_succ, List.getElem_cons_zero, List.setIfInBounds_toArray, List.set_cons_zero, List.set_cons_succ]))
                    (refine wpAnyH_take (i := 9) (oi := _) (v := ?_) (by (simp only [List.getElem?_toArray, List.getElem?_cons_succ, List.getElem?_cons_zero]); rfl) (by kernel_rfl) (by kernel_rfl) (by kernel_rfl) (by exact fun _ _ _ h => h) (Or.inl ⟨by rfl, ?_⟩) (by assumption) ?_; rotate_left; focus ((intro w hSw; (try dsimp only at hSw); go_simp) <;> with_reducible rfl); (try simp only [Act.put, List.getElem_toArray, List.getElem_cons_succ, List.getElem_cons_zero, List.setIfInBounds_toArray, List.set_cons_zero, List.set_cons_succ]))
                    (try simp only [Act.put, List.setIfInBounds_toArray, List.set_cons_zero, List.set_cons_succ])
                    refine wpAnyH_ready (rs := [2]) (by kernel_rfl) (by simp) ?_
                    refine AllReadyH.cons rfl ?_ AllReadyH.nil
                    intro KQ hKQ
                    refine step_plain rfl ?_
                    go_simp
                    refine hKQ.out _ _ ⟨(Kp.al _ _).cell hca trivial, (Kp.al _ _).cell hcx trivial⟩ (fun hHeld2 => ?_)
                    clear hKQ KQ
                    (try simp only [Act.put, List.setIfInBounds_toArray, List.set_cons_zero, List.set_cons_succ])
                    refine wpAnyH_ready (rs := [7]) (by kernel_rfl) (by simp) ?_
                    refine AllReadyH.cons rfl ?_ AllReadyH.nil
                    intro KQ hKQ
                    refine step_plain rfl (wp_app el8 (own_build0 (w := wr.drew) (e := 5) (sz := 1) (base := wr.heap.size) (Nat.le_refl _)) (A := VA) (m := l.length) (c := VC) (news := u8s l) ?_ ?_ ?_ ?_ _ _ rfl rfl rfl ?_)
                    (exact HSL.out _ ((Kp.refl All wr).drew.alloc _))
                    (exact u8s_one l)
                    omega
                    (exact (((Kp.refl All wr).alloc _).drew).size)
                    intro v1 w5 hown5 hg5 hob5 hnil5
                    rw [Nat.zero_add, List.nil_append] at hown5
                    obtain ⟨A5, e5, rfl⟩ := own_shape hown5
                    have k5 : Kp All wr w5 := ((Kp.refl All wr).drew.alloc (.cells #[] 5)).then (Kp.grown hg5) (fun i hi _ e => by simp [Value.ownBlock] at e; omega)
                    have ca5 := k5.cell hca trivial
                    have cx5 := k5.cell hcx trivial
                    have K5 := hid k5; have OW5 := hid hown5
                    clear hown5 hg5 hob5 hnil5 k5
                    refine hKQ.out _ _ ⟨ca5, cx5⟩ (fun hHeld3 => ?_)
                    clear hKQ KQ
                    (try simp only [Act.put, List.setIfInBounds_toArray, List.set_cons_zero, List.set_cons_succ])
                    refine wpAnyH_ready (rs := [10]) (by kernel_rfl) (by simp) ?_
                    refine AllReadyH.cons rfl ?_ AllReadyH.nil
                    intro KQ hKQ
                    refine step_plain rfl (wp_app el8 OW5.out (A := x.A) (m := x.data.length) (c := x.c) (news := u8s x.data) ?_ ?_ ?_ ?_ _ _ rfl rfl rfl ?_)
                    (exact HSD.out _ K5.out)
                    (exact u8s_one x.data)
                    omega
                    (exact K5.out.size)
                    intro v2 w6 hown6 hg6 hob6 hnil6
                    rw [← u8s_append] at hown6
                    obtain ⟨A6, e6, rfl⟩ := own_shape hown6
                    have k6 : Kp All wr w6 := K5.out.then (Kp.grown hg6) (fun i hi _ e => by have := (OW5.out.lt i e.symm).1; omega)
                    have ca6 := k6.cell hca trivial
                    have cx6 := k6.cell hcx trivial
                    have b6 := k6.heap hM.out.ma.blk trivial
                    have f6 := blk_free b6
                    have B6 := hid b6; have K6 := hid k6; have OW6 := hid hown6
                    clear hown6 hg6 hob6 hnil6 k6 b6
                    refine hKQ.out _ _ ⟨ca6, cx6⟩ (fun hHeld4 => ?_)
                    clear hKQ KQ
                    (refine wpAnyH_take (i := 11) (oi := _) (v := ?_) (by (simp only [List.getElem?_toArray, List.getElem?_cons_succ, List.getElem?_cons_zero]); rfl) (by kernel_rfl) (by kernel_rfl) (by kernel_rfl) (by exact fun _ _ _ h => h) (Or.inl ⟨by rfl, ?_⟩) (by assumption) ?_; rotate_left; focus ((intro w hSw; (try dsimp only at hSw); go_simp) <;> with_reducible rfl); (try simp only [Act.put, List.getElem_toArray, List.getElem_cons_succ, List.getElem_cons_zero, List.setIfInBounds_toArray, List.set_cons_zero, List.set_cons_succ]))
                    (try simp only [Act.put, List.setIfInBounds_toArray, List.set_cons_zero, List.set_cons_succ])
                    refine wpAnyH_done (by kernel_rfl) ?_ _
                    unfold RegionLast.LastQ
                    dsimp only
                    all_goals (go_wp2_with fail)
                    have kF : Kp (fun z => z ≠ ba) wr (w6.setCell ⟨ba, i, none⟩ (.slice A6 (l.length + x.data.length) e6)) := (K6.out.mono fun _ _ _ => trivial).setOut (by simp) _
                    have k6F : Kp (fun z => z ≠ ba) w6 (w6.setCell ⟨ba, i, none⟩ (.slice A6 (l.length + x.data.length) e6)) := (Kp.refl _ _).setOut (by simp) _
                    have hoF := own_kept (own0 OW6.out) k6F (fun z hz e => by have := (OW6.out.lt z hz).1; omega)
                    have hKM := hM.out.upd (v := .slice A6 (l.length + x.data.length) e6) (l := l ++ x.data) (by rw [blk_set B6.out i]; simp) kF (by rw [List.length_append]; exact hoF) (fun z hz => (OW6.out.lt z hz).1) (updL_put HSS.out HG.out HL.out)
                    exact ⟨⟨i + 1, _, by omega, by go_num, by rw [HTHS.out, HG.out]; simp, hKM, kF.heap hX.out hbxa⟩, by simp [intOf]; omega⟩
                · have hne1 := bl_ne hsa
                  have HSA := hid hsa
                  clear hsa
                  go_wp2_with fail
                  exact ⟨⟨i + 1, va', by omega, by go_num, by rw [HTHS.out, decide_eq_false HSA.out]; simp, by rw [updL_skip HSS.out (fun h => HSA.out h.1)]; exact hM.out, hX.out⟩, by simp [intOf]; omega⟩
              · have hb3 : decide ((i : Int) < (k : Int)) = false := decide_eq_false (by omega)
                obtain rfl : i = k := by omega
                have hpdb : pd ≤ 1073741824 := by
                  obtain ⟨_, _, _, _, hD'⟩ := HKM.out.dk
                  rw [← HPD.out]
                  exact hD'.pend_le
                have e1 : ti = th := by rw [← HTI.out, ← HTH.out, HNN.out]
                subst e1
                have hev : ev = if ti then 0 else 4 := by rw [← HEV.out]; exact happ.out.1
                have HFIN : Hid (KL w wr p names xs bs ba (j + 1) (pd + if ti then x.data.length else 0)) := hid ⟨ro3, _, S, _, vs, va', by have := hM.out; rw [← HNN.out] at this; exact this, happ.out.2.1, happ.out.2.2⟩
                have cbx := blk_cell hX.out
                unfold a8cells at cbx
                clear hM hX
                cases ti with
                | true =>
                  obtain rfl : ev = 0 := hev
                  go_wp2_with fail
                  exact ⟨⟨j + 1, pd + x.data.length, by omega, by go_num, by go_num, HFIN.out⟩, by simp [intOf]; omega⟩
                | false =>
                  obtain rfl : ev = 4 := hev
                  go_wp2_with fail
                  exact ⟨⟨j + 1, pd, by omega, by go_num, rfl, HFIN.out⟩, by simp [intOf]; omega⟩
        · have hb1 : decide ((j : Int) < (n : Int)) = false := decide_eq_false (by omega)
          obtain rfl : j = n := by omega
          obtain ⟨ro, D, S, L, vs, va, hKM, hKW, hpd⟩ := hKL.out
          have hpdb : pd ≤ 1073741824 := by
            obtain ⟨_, _, _, _, hD'⟩ := hKM.dk
            rw [← hpd]
            exact hD'.pend_le
          have hoffp : (if D.off then 0 else pend D.B) = pd := by rw [hKW.off, ← hpd]; rfl
          have HKM := hid hKM; have HKW := hid hKW; have HPD := hid hpd; have HOP := hid hoffp
          clear hKM hKW hpd hoffp hKL
          go_wp2_with fail
          refine (pend_any p ro D wr HKM.out.dk).mono ?_
          rw [HOP.out]
          rintro e w3 ⟨rfl, hk3⟩
          have HM3 := hid (HKM.out.all hk3)
          clear hk3
          go_wp2_with fail
          refine (crash_any p ro D keep hkeep w3 HM3.out.dk).mono ?_
          rintro e w4 ⟨rfl, hnx⟩
          obtain ⟨ro4, hkm4⟩ := HM3.out.next hnx
          have HM4 := hid hkm4
          clear hnx hkm4
          go_wp2_with fail
          refine (start_any p ro4 (D.crash keep) w4 HM4.out.dk).mono ?_
          rintro e w5 ⟨rfl, hnx⟩
          obtain ⟨ro5, hkm5⟩ := HM4.out.next hnx
          have HM5 := hid hkm5
          clear hnx hkm5
          go_wp2_with fail
          have HLF := hid (HKW.out.left keep.toNat)
          have HSL : Hid (S.length = k) := hid (by rw [HKW.out.sl, HNN.out])
          have HLL : Hid (L.length = k) := hid (by rw [HKW.out.ll, HNN.out])
          go_loopw [21, 153] (fun ll ii w' => ∃ i : Nat, i ≤ k ∧ ii = .int .i64 i ∧ ll = .int .i64 (leftN names (takeB D.B keep.toNat) i) ∧ Hid (KM w w' p ro5 (D.crash keep).start bs ba S L vs va)) (fun _ ii _ => k - (intOf ii).toNat)
          case atStart => exact ⟨0, Nat.zero_le _, rfl, rfl, HM5.out⟩
          case round =>
            obtain ⟨i, hi, rfl, rfl, hM⟩ := hrel
            by_cases hik : i < k
            · have hb3 : decide ((i : Int) < (k : Int)) = true := decide_eq_true (by omega)
              have i0 : (0 : Int) ≤ (i : Int) := by omega
              have i1 : (i : Int) < (k : Int) := by omega
              obtain ⟨s, hs⟩ : ∃ s, names[i]? = some s := ⟨_, List.getElem?_eq_getElem (by rw [HNN.out]; exact hik)⟩
              have hsz := HNZ.out s (List.mem_of_getElem? hs)
              obtain ⟨bN, oN, rfl, hcN⟩ := NS.at (HNS.out wr hM.out.kp) hs
              have HSS := hid hs
              obtain ⟨g, hg⟩ : ∃ g, goodB s = g := ⟨_, rfl⟩
              have HG := hid hg
              obtain ⟨lf, hlf⟩ : ∃ lf, leftN names (takeB D.B keep.toNat) i = lf := ⟨_, rfl⟩
              rw [hlf]
              have HLFI := hid hlf
              clear hs hg hlf
              cases g with
              | false =>
                go_wp2_with fail
                refine (good_any s (by omega) wr).mono ?_
                rw [HG.out]
                rintro e w6 ⟨rfl, rfl⟩
                go_wp2_with fail
                exact ⟨⟨i + 1, by omega, by go_num, by rw [leftN_skip HSS.out (by rw [HG.out]; rfl), HLFI.out], hM.out⟩, by simp [intOf]; omega⟩
              | true =>
                obtain ⟨a, cc, ha, hcc, hre, hrb, hpre⟩ := HKW.out.read keep.toNat HSS.out HG.out
                go_wp2_with fail
                refine (good_any s (by omega) wr).mono ?_
                rw [HG.out]
                rintro e w6 ⟨rfl, rfl⟩
                go_wp2_with fail
                refine (read_any p ro5 (D.crash keep).start s wr hM.out.dk).mono ?_
                have hre' : readErr (D.crash keep).start s = 0 := hre
                have hrb' : readB (D.crash keep).start s = a ++ pieces (takeB D.B keep.toNat) s := hrb
                rw [hre', hrb']
                clear hre hrb hre' hrb'
                rintro e w7 ⟨v, rfl, hv, hk7⟩
                obtain ⟨b7, hb7⟩ : ∃ b7, a ++ pieces (takeB D.B keep.toNat) s = b7 := ⟨_, rfl⟩
                rw [hb7] at hv hpre
                obtain ⟨VB, VBc, rfl⟩ := own_shape hv
                have hk7' := hk7
                have hM7 := hM.out.all hk7
                obtain ⟨SA, sl, SC, hsl, hsv, hcs⟩ := hM7.gets (i := i) (by rw [HSL.out]; exact hik)
                obtain ⟨VA, l, VC, hl, hvv, hca⟩ := hM7.get (i := i) (by rw [HLL.out]; exact hik)
                obtain rfl : sl = a := by rw [hsl] at ha; injection ha
                obtain rfl : l = cc := by rw [hl] at hcc; injection hcc
                have hlen1 : sl.length ≤ b7.length := by rw [← hb7, List.length_append]; omega
                have hlen2 : b7.length ≤ l.length := hpre.length_le
                have hlb : b7.length = sl.length + moreOf (takeB D.B keep.toNat) s := by rw [← hb7, List.length_append, pieces_len]
                have hll : l.length ≤ 15000 := by
                  have := HKW.out.size l (List.mem_of_getElem? hl)
                  have := hfew.out
                  have h3 : tot (xs.take j) ≤ tot xs := tot_take_le xs j
                  omega
                obtain ⟨hrow, hrw⟩ := hM7.ma.row i _ l hvv hl
                have htk : l.take b7.length = b7 := by obtain ⟨r, hr⟩ := hpre; rw [← hr]; simp
                have hsb : ∀ q, (convert 32 9 (.slice VB b7.length VBc)).run Try.prog (w7.drewN q) = .ok (.string ⟨b7.toArray⟩) (w7.drewN q) := fun q => by
                  have h2 := (own_sl (own_kept hv ((Kp.refl All w7).drewN q) (fun _ _ => trivial)) (Nat.le_refl b7.length)).1
                  rw [List.take_of_length_le (by simp)] at h2
                  exact sl_str h2 rfl
                have hsc : ∀ q, (convert 32 9 (.slice VA b7.length VC)).run Try.prog (w7.drewN q) = .ok (.string ⟨b7.toArray⟩) (w7.drewN q) := fun q => by
                  have h2 := (own_sl (own_kept hrow ((Kp.refl All w7).drewN q) (fun _ _ => trivial)) hlen2).1
                  rw [← u8s_take, htk] at h2
                  exact sl_str h2 rfl
                have hvc : l.length ≤ VC := (own_sl hrow (Nat.le_refl _)).2
                have HM7 := hid hM7
                obtain ⟨L7, hL7⟩ : ∃ z, b7.length = z := ⟨_, rfl⟩
                obtain ⟨Ll, hLl⟩ : ∃ z, l.length = z := ⟨_, rfl⟩
                obtain ⟨Ls, hLs⟩ : ∃ z, sl.length = z := ⟨_, rfl⟩
                rw [hL7] at hlen1 hlen2 hlb hsb hsc ⊢
                rw [hLl] at hlen2 hll hca hvc
                rw [hLs] at hlen1 hlb hcs
                have HLB := hid hlb
                have hd1 : decide ((L7 : Int) < (Ls : Int)) = false := decide_eq_false (by omega)
                have hd2 : decide ((Ll : Int) < (L7 : Int)) = false := decide_eq_false (by omega)
                have hnc : (i : Int) ≤ (nc : Int) := by have := (HNS.out wr hM.out.kp).2.1; have := HNN.out; omega
                have z0 : (0 : Int) ≤ (L7 : Int) := by omega
                have z1 : (L7 : Int) ≤ (VC : Int) := by omega
                have z2 : (L7 : Int) ≤ (Ll : Int) := by omega
                clear ha hcc hsl hl hsv hvv hrow hrw htk hlb hL7 hLl hLs hpre hb7 hk7 hk7' hM7 hv
                go_wp2_with fail
                go_quiet (fail)
                generalize nq = qa
                obtain ⟨w8, hw8⟩ : ∃ w8, w8 = w7.drewN qa := ⟨_, rfl⟩
                have HM8 : Hid (KM w w8 p ro5 (D.crash keep).start bs ba S L vs va) := hid (by rw [hw8]; exact HM7.out.all ((Kp.refl All w7).drewN qa))
                have hcs8 : w8.cell? ⟨bs, i, none⟩ = some (.slice SA Ls SC) := by rw [hw8]; exact hcs
                rw [← hw8]
                clear hw8 hsb hsc hcs hca
                go_wp2_with fail
                go_loopw [26, 206] (fun aa mm w' => ∃ m : Nat, m ≤ i ∧ mm = .int .i64 m ∧ aa = .bool (again names m s) ∧ w' = w8) (fun _ mm _ => i - (intOf mm).toNat)
                case atStart => exact ⟨0, Nat.zero_le _, rfl, rfl, rfl⟩
                case round =>
                  obtain ⟨m, hm, rfl, rfl, rfl⟩ := hrel
                  obtain ⟨ga, hga⟩ : ∃ ga, again names m s = ga := ⟨_, rfl⟩
                  rw [hga]
                  have HGA := hid hga
                  clear hga
                  by_cases hmi : m < i
                  · have hb4 : decide ((m : Int) < (i : Int)) = true := decide_eq_true (by omega)
                    have m0 : (0 : Int) ≤ (m : Int) := by omega
                    have m1 : (m : Int) < (i : Int) := by omega
                    obtain ⟨t, ht⟩ : ∃ t, names[m]? = some t := ⟨_, List.getElem?_eq_getElem (by rw [HNN.out]; omega)⟩
                    obtain ⟨_, _, e9, hcM⟩ := NS.at (HNS.out wr HM8.out.kp) ht
                    injection e9 with e9
                    injection e9 with e91 e92 _
                    subst e91 e92
                    have has := again_succ (s := s) ht
                    rw [HGA.out] at has
                    have HAS := hid has
                    clear has ht
                    cases ga with
                    | true =>
                      go_wp2_with fail
                      exact ⟨⟨m + 1, by omega, by go_num, by rw [HAS.out]; simp, trivial⟩, by simp [intOf]; omega⟩
                    | false =>
                      by_cases hst : s = t
                      · subst hst
                        go_wp2_with fail
                        exact ⟨⟨m + 1, by omega, by go_num, by rw [HAS.out]; simp, trivial⟩, by simp [intOf]; omega⟩
                      · have hne1 := bl_ne hst
                        have HST2 := hid hst
                        clear hst
                        go_wp2_with fail
                        exact ⟨⟨m + 1, by omega, by go_num, by rw [HAS.out, decide_eq_false HST2.out]; simp [hne1], trivial⟩, by simp [intOf]; omega⟩
                  · have hb4 : decide ((m : Int) < (i : Int)) = false := decide_eq_false (by omega)
                    obtain rfl : m = i := by omega
                    have hlfb : lf ≤ 1073741824 := by
                      have h1 := leftN_le names (takeB D.B keep.toNat) m (names.length - m)
                      have h2 := HLF.out
                      have h3 := HPD.out
                      have h4 := HNN.out
                      rw [show m + (names.length - m) = names.length from by omega, HLFI.out] at h1
                      unfold leftN at h1
                      omega
                    cases ga with
                    | true =>
                      go_wp2_with fail
                      exact ⟨⟨m + 1, by omega, by go_num, by rw [leftN_skip HSS.out (by rw [HG.out, HGA.out]; rfl), HLFI.out], HM8.out⟩, by simp [intOf]; omega⟩
                    | false =>
                      go_wp2_with fail
                      refine ⟨⟨m + 1, by omega, by go_num, ?_, HM8.out⟩, by simp [intOf]; omega⟩
                      rw [leftN_put HSS.out (by rw [HG.out, HGA.out]; rfl), HLFI.out]
                      have := HLB.out
                      rw [show ((lf + moreOf (takeB D.B keep.toNat) s : Nat) : Int) = (lf : Int) + ((L7 : Int) - (Ls : Int)) from by omega]
            · have hb3 : decide ((i : Int) < (k : Int)) = false := decide_eq_false (by omega)
              obtain rfl : i = k := by omega
              have hlf : leftN names (takeB D.B keep.toNat) i = min keep.toNat pd := by
                have := HLF.out
                rw [HNN.out, HPD.out] at this
                exact this
              obtain ⟨lf, hlfe⟩ : ∃ lf, leftN names (takeB D.B keep.toNat) i = lf := ⟨_, rfl⟩
              rw [hlfe] at hlf ⊢
              clear hlfe
              by_cases hk0 : keep < 0
              · obtain rfl : lf = 0 := by omega
                have hp0 : ¬ (pd : Int) < 0 := by omega
                clear hlf
                go_wp2_with fail
                refine (lives_true _).mono ?_
                rintro e w9 ⟨rfl, hk⟩
                have HK := hid hk
                clear hk
                go_wp2_with fail
                go_ret
                exact ⟨rfl, hM.out.kp.trans HK.out⟩
              · by_cases hkp : (pd : Int) < keep
                · obtain rfl : lf = pd := by omega
                  clear hlf
                  go_wp2_with fail
                  refine (lives_true _).mono ?_
                  rintro e w9 ⟨rfl, hk⟩
                  have HK := hid hk
                  clear hk
                  go_wp2_with fail
                  go_ret
                  exact ⟨rfl, hM.out.kp.trans HK.out⟩
                · obtain rfl : keep = (lf : Int) := by omega
                  clear hlf
                  go_wp2_with fail
                  refine (lives_true _).mono ?_
                  rintro e w9 ⟨rfl, hk⟩
                  have HK := hid hk
                  clear hk
                  go_wp2_with fail
                  go_ret
                  exact ⟨rfl, hM.out.kp.trans HK.out⟩
end Go.Proofs.Ytdlbccjimdghkaa
