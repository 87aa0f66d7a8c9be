/- Regions that draw their order and whose last operation waits for all others: the others in whatever order, then the last one. No program in sight. -/
import Derived.WalkKit
import Derived.Deep.RegionHeld3
import Derived.Deep.QuietTactic
import Derived.BigQuiet
import Derived.KernelRfl
namespace Go.RegionLast
open Go

/-- The last operation waits for all others, and each other one for elder ones alone. -/
def dep (l : List Oper) (k j : Nat) : Bool := (l[k]?).any fun o => o.after.any fun e => Region.binds .any e && e.on == j
/-- Every operation between j and n is waited for by n, some way. -/
def cov (l : List Oper) (n : Nat) : Nat → List Nat → Bool
  | 0, _ => true
  | j + 1, ks => (dep l n j || ks.any fun k => dep l k j) && cov l n j (j :: ks)
def lastB (l : List Oper) (n : Nat) : Bool :=
  (n + 1 == l.length) && (l.all fun o => o.guard.isNone) &&
  ((List.range (n + 1)).all fun j => (l[j]?).all fun o => o.after.all fun e => !Region.binds .any e || decide (e.on < j)) &&
  cov l n n []

/-- What is asked behind the others: the last one. -/
def LastQ (P : Program) (ops : Array Oper) (tl : List Oper) (Q : Exit → Act → World → Prop) : Exit → Act → World → Prop
  | .normal, a, w => wpList P ops Q tl a w
  | e, a, w => Q e a w

variable {P : Program} {Q : Exit → Act → World → Prop}

theorem upon_swap {o : Oper} {a : Act} {w : World} {K K' : Act → World → Prop} {Q Q' : Exit → Act → World → Prop} (hK : ∀ a w, K a w → K' a w) (hQ : ∀ e a w, e ≠ .normal → Q e a w → Q' e a w) (h : Oper.wp P o a w K Q) : Oper.wp P o a w K' Q' := by
  unfold Oper.wp at *
  generalize (execOp a.eval o).run P w = r at *
  cases r with
  | ok n w' =>
    cases n <;> simp only [Oper.upon] at h ⊢
    case value u => exact hK _ _ h
    case skip => exact hK _ _ h
    case defer d => exact hK _ _ h
    case enter f args =>
      refine Calls.mono h fun e w'' he => ?_
      cases e with
      | returned u => exact hK _ _ he
      | panicked c => exact hQ _ _ _ (by simp) he
      | outgrown => exact let ⟨a, w, h⟩ := (he : LetsOut _); (⟨a, w, hQ _ _ _ (by simp) h⟩ : LetsOut _)
    case row row args => exact Rows.mono h fun u w'' he => hK _ _ he
  | halt x w' =>
    cases x <;> simp only [Oper.upon] at h ⊢
    case panic u => exact hQ _ _ _ (by simp) h

theorem wpOp_swap {ops ops' : Array Oper} {i : Nat} {o : Oper} {a : Act} {w : World} {K K' : Act → World → Prop} {Q Q' : Exit → Act → World → Prop} (ho : ops[i]? = some o) (ho' : ops'[i]? = some o) (hg : o.guard = none) (hK : ∀ a w, K a w → K' a w) (hQ : ∀ e a w, e ≠ .normal → Q e a w → Q' e a w)
    (h : wpOp P ops Q i K a w) : wpOp P ops' Q' i K' a w := by
  have hw : ∀ y, Region.wanted o y = true := fun y => by simp [Region.wanted, hg]
  unfold wpOp at *
  simp only [ho, ho', hw, if_true] at h ⊢
  rcases h with h | ⟨h1, h2⟩
  · exact .inl (upon_swap hK hQ h)
  · exact .inr ⟨h1, let ⟨a, w, h⟩ := h2; ⟨a, w, hQ _ _ _ (by simp) h⟩⟩

structure Last (l : List Oper) (n : Nat) : Prop where
  size : l.length = n + 1
  plain : ∀ o ∈ l, o.guard = none
  back : ∀ j o, j ≤ n → l[j]? = some o → ∀ e ∈ o.after, Region.binds .any e = true → e.on < j
  covers : cov l n n [] = true
theorem lastB_spec {l : List Oper} {n : Nat} (h : lastB l n = true) : Last l n := by
  simp only [lastB, Bool.and_eq_true, beq_iff_eq, List.all_eq_true, List.mem_range] at h
  obtain ⟨⟨⟨h1, h2⟩, h3⟩, h4⟩ := h
  refine ⟨h1.symm, fun o ho => by simpa using h2 o ho, fun j o hj ho e he hb => ?_, ?_⟩
  · have := h3 j (by omega)
    rw [ho] at this
    simp only [Option.all_some, Array.all_eq_true_iff_forall_mem] at this
    have := this e he
    simpa [hb] using this
  · exact h4
/-- listed with whatever it waits for -/
def Down (l : List Oper) (n : Nat) (L : Array Bool) : Prop := ∀ j o, j < n → l[j]? = some o → L.getD j false = true → ∀ e ∈ o.after, Region.binds .any e = true → L.getD e.on false = true
theorem dep_spec {l : List Oper} {k j : Nat} (h : dep l k j = true) : ∃ o, l[k]? = some o ∧ ∃ e ∈ o.after, Region.binds .any e = true ∧ e.on = j := by
  unfold dep at h
  cases ho : l[k]? with
  | none => rw [ho] at h; simp at h
  | some o =>
    rw [ho] at h
    simp only [Option.any_some] at h
    rw [Array.any_eq_true'] at h
    obtain ⟨e, he, h⟩ := h
    simp only [Bool.and_eq_true, beq_iff_eq] at h
    exact ⟨o, rfl, e, he, h.1, h.2⟩
theorem cov_spec {l : List Oper} {n : Nat} {L : Array Bool} (hd : Down l n L) (hn : ∀ o, l[n]? = some o → ∀ e ∈ o.after, Region.binds .any e = true → L.getD e.on false = true) :
    ∀ (j : Nat) (ks : List Nat), j ≤ n → (∀ k ∈ ks, k < n ∧ L.getD k false = true) → cov l n j ks = true → ∀ i, i < j → L.getD i false = true
  | 0, _, _, _, _, i, hi => absurd hi (Nat.not_lt_zero i)
  | j + 1, ks, hj, hks, h, i, hi => by
    simp only [cov, Bool.and_eq_true, Bool.or_eq_true] at h
    have h1 : L.getD j false = true := by
      rcases h.1 with h | h
      · obtain ⟨o, ho, e, he, hb, rfl⟩ := dep_spec h
        exact hn o ho e he hb
      · obtain ⟨k, hk, h⟩ := List.any_eq_true.1 h
        obtain ⟨o, ho, e, he, hb, rfl⟩ := dep_spec h
        exact hd k o (hks k hk).1 ho (hks k hk).2 e he hb
    by_cases e : i = j
    · subst e; exact h1
    · exact cov_spec hd hn j (j :: ks) (by omega) (fun k hk => by
        cases hk with
        | head => exact ⟨by omega, h1⟩
        | tail _ hk => exact hks k hk) h.2 i (by omega)

theorem getD_push_lt {L : Array Bool} {i : Nat} (d x : Bool) (h : i < L.size) : (L.push x).getD i d = L.getD i d := by
  simp [Array.getElem?_push_lt, h]
theorem getD_push_eq (L : Array Bool) (d x : Bool) : (L.push x).getD L.size d = x := by
  simp

section
variable {l : List Oper} {n : Nat}
theorem take_get {j : Nat} (hj : j < n) : (l.take n).toArray[j]? = l.toArray[j]? := by
  simp [List.getElem?_take, hj]
theorem ready_lt (H : Last l n) {L : Array Bool} (hL : L.size = n) {i : Nat} (hi : i < n) : i ∈ Region.ready .any l.toArray (L.push false) ↔ i ∈ Region.ready .any (l.take n).toArray L := by
  rw [mem_ready, mem_ready, getD_push_lt _ _ (by omega), take_get hi]
  refine and_congr Iff.rfl ⟨?_, ?_⟩
  · rintro ⟨o, ho, h⟩
    refine ⟨o, ho, fun e he hb => ?_⟩
    have := H.back i o (by omega) (by simpa using ho) e he hb
    rw [← getD_push_lt false false (by omega)]
    exact h e he hb
  · rintro ⟨o, ho, h⟩
    refine ⟨o, ho, fun e he hb => ?_⟩
    have := H.back i o (by omega) (by simpa using ho) e he hb
    rw [getD_push_lt false false (by omega)]
    exact h e he hb
theorem ready_init_lt {L : Array Bool} {i : Nat} (hi : i ∈ Region.ready .any (l.take n).toArray L) : i < n := by
  obtain ⟨_, o, ho, _⟩ := mem_ready.1 hi
  simp only [List.getElem?_toArray, List.getElem?_take] at ho
  split at ho
  · assumption
  · cases ho
theorem all_of_none (H : Last l n) {L : Array Bool} (h : Region.ready .any (l.take n).toArray L = []) : ∀ j, j < n → L.getD j true = true := by
  intro j
  induction j using Nat.strongRecOn with
  | ind j ih =>
    intro hj
    cases hL : L.getD j true with
    | true => rfl
    | false =>
      have hlen : j < l.length := by rw [H.size]; omega
      have : j ∈ Region.ready .any (l.take n).toArray L := by
        rw [mem_ready]
        refine ⟨hL, l[j], by simp [List.getElem?_take, hj, hlen], fun e he hb => ?_⟩
        have h1 := H.back j _ (by omega) (List.getElem?_eq_getElem hlen) e he hb
        have h2 := ih e.on h1 (by omega)
        have hsz : e.on < L.size := by
          have hjs : j < L.size := by
            rcases Nat.lt_or_ge j L.size with h | h
            · exact h
            · simp [h] at hL
          omega
        simpa [hsz] using h2
      rw [h] at this
      cases this
theorem ready_last (H : Last l n) {L : Array Bool} (hL : L.size = n) (hd : Down l n L) : n ∈ Region.ready .any l.toArray (L.push false) ↔ ∀ j, j < n → L.getD j true = true := by
  obtain ⟨o, ho⟩ : ∃ o, l[n]? = some o := ⟨_, List.getElem?_eq_getElem (by rw [H.size]; omega)⟩
  rw [mem_ready]
  constructor
  · rintro ⟨_, o', ho', h⟩ j hj
    have : o' = o := by simpa [ho] using ho'.symm
    subst this
    have := cov_spec hd (fun o2 ho2 e he hb => by
      have e2 : o2 = o' := by rw [ho] at ho2; exact (Option.some.inj ho2).symm
      subst e2
      have := h e he hb
      rw [getD_push_lt _ _ (by have := H.back n o2 (Nat.le_refl _) ho e he hb; omega)] at this
      exact this) n [] (Nat.le_refl _) (by simp) H.covers j hj
    simpa [show j < L.size from by omega] using this
  · intro h
    refine ⟨by rw [← hL]; simp, o, by simpa using ho, fun e he hb => ?_⟩
    have h1 := H.back n o (Nat.le_refl _) ho e he hb
    have h2 := h e.on h1
    rw [getD_push_lt _ _ (by omega)]
    simpa [show e.on < L.size from by omega] using h2

theorem any_last (H : Last l n) {Q : Exit → Act → World → Prop} : ∀ (fuel : Nat) (L : Array Bool) (a : Act) (w : World), L.size = n → Down l n L →
    wpAny P .any (l.take n).toArray (LastQ P l.toArray (l.drop n) Q) fuel L a w → wpAny P .any l.toArray Q (fuel + 1) (L.push false) a w := by
  obtain ⟨ol, hol⟩ : ∃ o, l[n]? = some o := ⟨_, List.getElem?_eq_getElem (by rw [H.size]; omega)⟩
  have hdrop : l.drop n = [ol] := by
    rw [List.drop_eq_getElem_cons (by rw [H.size]; omega), List.drop_eq_nil_of_le (by rw [H.size]; omega)]
    congr 1
    have := List.getElem?_eq_getElem (l := l) (i := n) (by rw [H.size]; omega)
    rw [this] at hol
    injection hol
  have hgl : ol.guard = none := H.plain ol (List.mem_of_getElem? hol)
  have hwl : ∀ y, Region.wanted ol y = true := fun y => by simp [Region.wanted, hgl]
  have hdone : ∀ (L : Array Bool), L.size = n → (∀ j, j < n → L.getD j true = true) → Region.ready .any l.toArray ((L.push false).setIfInBounds n true) = [] := by
    intro L hL hall
    refine List.eq_nil_iff_forall_not_mem.2 fun j hj => ?_
    obtain ⟨h0, o, ho, _⟩ := mem_ready.1 hj
    have hjn : j < n + 1 := by
      have := (List.getElem?_eq_some_iff.1 (by simpa using ho)).1
      rw [H.size] at this
      exact this
    by_cases hj2 : j = n
    · subst hj2
      simp [hL] at h0
    · rw [getD_set_ne true (Ne.symm hj2), getD_push_lt _ _ (by omega), hall j (by omega)] at h0
      cases h0
  have hlast : ∀ (fuel : Nat) (L : Array Bool) (a : Act) (w : World), L.size = n → (∀ j, j < n → L.getD j true = true) → LastQ P l.toArray (l.drop n) Q .normal a w → wpOp P l.toArray Q n (wpAny P .any l.toArray Q fuel ((L.push false).setIfInBounds n true)) a w := by
    intro fuel L a w hL hall h
    rw [hdrop] at h
    unfold LastQ wpList at h
    simp only [hwl, if_true] at h
    unfold wpOp
    simp only [List.getElem?_toArray, hol, hwl, if_true]
    refine h.imp (fun h => upon_swap (fun a w h => ?_) (fun _ _ _ _ h => h) h) id
    exact wpAny_done (hdone L hL hall) (by simpa [wpList] using h) fuel
  intro fuel
  induction fuel with
  | zero =>
    intro L a w hL hd h
    have hall := all_of_none H h.1
    refine ⟨fun h0 => ?_, fun i hi => ?_⟩
    · have := (ready_last H hL hd).2 hall
      rw [h0] at this
      cases this
    · by_cases hin : i = n
      · subst hin
        exact hlast 0 L a w hL hall h.2
      · have hlt : i < n := by
          obtain ⟨_, o, ho, _⟩ := mem_ready.1 hi
          have := (List.getElem?_eq_some_iff.1 (by simpa using ho)).1
          rw [H.size] at this
          omega
        rw [ready_lt H hL hlt, h.1] at hi
        cases hi
  | succ fuel ih =>
    intro L a w hL hd h
    refine ⟨fun h0 => ?_, fun i hi => ?_⟩
    · by_cases hr : Region.ready .any (l.take n).toArray L = []
      · have := (ready_last H hL hd).2 (all_of_none H hr)
        rw [h0] at this
        cases this
      · obtain ⟨i, hi⟩ := List.exists_mem_of_ne_nil _ hr
        have := (ready_lt H hL (ready_init_lt hi)).2 hi
        rw [h0] at this
        cases this
    · by_cases hin : i = n
      · subst hin
        have hall := (ready_last H hL hd).1 hi
        have hnil : Region.ready .any (l.take i).toArray L = [] := by
          refine List.eq_nil_iff_forall_not_mem.2 fun j hj => ?_
          have h1 := (mem_ready.1 hj).1
          rw [hall j (ready_init_lt hj)] at h1
          cases h1
        exact hlast _ L a w hL hall (h.1 hnil)
      · have hlt : i < n := by
          obtain ⟨_, o, ho, _⟩ := mem_ready.1 hi
          have := (List.getElem?_eq_some_iff.1 (by simpa using ho)).1
          rw [H.size] at this
          omega
        have hi' := (ready_lt H hL hlt).1 hi
        obtain ⟨o, ho⟩ : ∃ o, l[i]? = some o := ⟨_, List.getElem?_eq_getElem (by rw [H.size]; omega)⟩
        refine wpOp_swap (ops := (l.take n).toArray) (by simpa [List.getElem?_take, hlt] using ho) (by simpa using ho) (H.plain o (List.mem_of_getElem? ho)) (fun a w h => ?_) (fun e a w he h => ?_) (h.2 i hi')
        · have h2 := ih (L.setIfInBounds i true) a w (by simpa using hL) (fun j oj hj hoj hlj e he hb => by
            by_cases hei : i = e.on
            · subst hei
              simp [show e.on < L.size from by omega]
            · rw [getD_set_ne false hei]
              by_cases hji : i = j
              · subst hji
                obtain ⟨_, o2, ho2, h2⟩ := mem_ready.1 hi'
                have e2 : o2 = oj := by
                  rw [take_get hlt] at ho2
                  simp only [List.getElem?_toArray] at ho2
                  rw [hoj] at ho2
                  exact (Option.some.inj ho2).symm
                subst e2
                exact h2 e he hb
              · rw [getD_set_ne false hji] at hlj
                exact hd j oj hj hoj hlj e he hb) h
          have e1 : (L.setIfInBounds i true).push false = (L.push false).setIfInBounds i true := by
            apply Array.ext_getElem?
            intro j
            simp only [Array.getElem?_push, Array.getElem?_setIfInBounds, Array.size_setIfInBounds, Array.size_push]
            by_cases e1 : j = L.size
            · subst e1
              have : i ≠ L.size := by omega
              simp [this]
            · by_cases e2 : i = j
              · subst e2
                simp [e1, show i < L.size from by omega, show i < L.size + 1 from by omega]
              · simp [e1, e2]
          rw [← e1]
          exact h2
        · cases e <;> first | exact absurd rfl he | exact h
theorem wp_region_last {id : Nat} {a : Act} {w : World} (hm : P.follows .mixedOrders = true) (n : Nat) (hB : lastB l n = true)
    (h : wpAny P .any (l.take n).toArray (LastQ P l.toArray (l.drop n) Q) n (Array.replicate n false) a { w with drawn := w.drawn + 1 }) : (Code.region id l.toArray true).wp P Q a w := by
  have H := lastB_spec hB
  refine wp_region_any hm ?_
  have := any_last H n (Array.replicate n false) a _ (by simp) (fun j o hj ho hl => by simp [hj] at hl) h
  rw [show l.toArray.size = n + 1 from by simp [H.size], Array.replicate_succ]
  exact this

theorem wp_region_last_quiet {id : Nat} {a : Act} {w : World} (hm : P.follows .mixedOrders = true) (n : Nat) (hB : lastB l n = true) (hq : Region.lexB .any (l.take n).toArray = true)
    (h : wpQuiet P (l.take n).toArray (fun w' => ∃ n, w' = w.drewN n) (fun a' => ∀ w', (∃ n, w' = w.drewN n) → wpList P l.toArray Q (l.drop n) a' w') (l.take n) a) : (Code.region id l.toArray true).wp P Q a w := by
  have H := lastB_spec hB
  refine wp_region_last hm n hB ?_
  simp only [Region.lexB, Bool.and_eq_true] at hq
  have hlen : (l.take n).length = n := by rw [List.length_take, H.size]; omega
  refine wpAny_of_quiet (C := fun w' => ∃ n, w' = w.drewN n) (Q := fun a' => ∀ w', (∃ n, w' = w.drewN n) → wpList P l.toArray Q (l.drop n) a' w') (fun _ w' hw' h => h w' hw') _ _ _ _ ⟨1, rfl⟩ ?_
  have := wpAnyQ_lex (C := fun w' => ∃ n, w' = w.drewN n) (md := .any) hq.1 (l.take n) 0 (Array.replicate n false) a (by simp) (by rw [hlen]; simpa [hlen] using hq.2) h
  rw [hlen] at this
  exact this

/-- .. the last one found by itself. -/
theorem wp_region_end_quiet {id : Nat} {a : Act} {w : World} (hm : P.follows .mixedOrders = true) (hB : lastB l (l.length - 1) = true) (hq : Region.lexB .any (l.take (l.length - 1)).toArray = true)
    (h : wpQuiet P (l.take (l.length - 1)).toArray (fun w' => ∃ n, w' = w.drewN n) (fun a' => ∀ w', (∃ n, w' = w.drewN n) → wpList P l.toArray Q (l.drop (l.length - 1)) a' w') (l.take (l.length - 1)) a) : (Code.region id l.toArray true).wp P Q a w :=
  wp_region_last_quiet hm _ hB hq h

theorem wp_region_end_held {id : Nat} {a : Act} {w : World} {S : World → Prop} (hm : P.follows .mixedOrders = true) (hB : lastB l (l.length - 1) = true) (hS : S w.drew)
    (h : S w.drew → wpAnyH P .any (l.take (l.length - 1)).toArray (LastQ P l.toArray (l.drop (l.length - 1)) Q) S (l.length - 1) (Array.replicate (l.length - 1) false) a w.drew) : (Code.region id l.toArray true).wp P Q a w :=
  wp_region_last hm _ hB (wpAny_of_held _ _ _ _ (h hS))
theorem wp_region_last_held {id : Nat} {a : Act} {w : World} {S : World → Prop} (hm : P.follows .mixedOrders = true) (n : Nat) (hB : lastB l n = true) (hS : S w.drew)
    (h : S w.drew → wpAnyH P .any (l.take n).toArray (LastQ P l.toArray (l.drop n) Q) S n (Array.replicate n false) a w.drew) : (Code.region id l.toArray true).wp P Q a w :=
  wp_region_last hm n hB (wpAny_of_held _ _ _ _ (h hS))
end

end Go.RegionLast
