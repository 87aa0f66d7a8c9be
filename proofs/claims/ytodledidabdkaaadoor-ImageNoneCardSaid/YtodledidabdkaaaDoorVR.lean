/- A region within a round of a loop over an iterator that draws its order and whose last operation waits for all others: the others in the text's order, outside of the round, then the last one; over any program. -/
import Derived.Test.YtodledidabdkaaaDoorVQ
import Derived.Test.YtodledidabdkaaaDoorRT
namespace Go.Proofs.YtodledidabdkaaaDoor
open Go.RowKit Go.RegionLast
set_option linter.unusedVariables false
set_option linter.unusedSimpArgs false
section
variable {F : Fence} {m : Nat} {P : Program} {Q : Exit → Act → World → Prop}
def LastQIn (F : Fence) (m : Nat) (P : Program) (ops : Array Oper) (tl : List Oper) (Q : Exit → Act → World → Prop) : Exit → Act → World → Prop
  | .normal, a, w => wpListIn F m P ops Q tl a w
  | e, a, w => Q e a w
theorem uponIn_swap {o : Oper} {a : Act} {w : World} {K K' : Act → World → Prop} {Q Q' : Exit → Act → World → Prop} (hK : ∀ a w, K a w → K' a w) (hQ : ∀ e a w, e ≠ .normal → Q e a w → Q' e a w) (h : o.wpIn F m P a w K Q) : o.wpIn F m P a w K' Q' := by
  unfold Oper.wpIn at *
  refine ⟨h.1, ?_⟩
  have h := h.2
  generalize (o.semAt F.round a.eval).run P w = r at *
  cases r with
  | ok n w' =>
    cases n <;> simp only [Oper.uponIn] at h ⊢
    case value u => exact hK _ _ h
    case skip => exact hK _ _ h
    case defer d => exact hK _ _ h
    case enter f args =>
      refine ⟨h.1, CallsIn.mono h.2 fun e w'' he => ?_⟩
      cases e with
      | returned u => exact hK _ _ he
      | panicked c => exact hQ _ _ _ (by simp) he
      | outgrown => exact let ⟨a, w, h⟩ := (he : LetsOut _); (⟨a, w, hQ _ _ _ (by simp) h⟩ : LetsOut _)
    case row row args => exact ⟨h.1, RowsIn.mono h.2 fun u w'' he => hK _ _ he⟩
    case round l f tmps assign body =>
      refine ⟨h.1, RoundIn.mono h.2 fun e w'' he => ?_⟩
      cases e with
      | returned u => exact hK _ _ he
      | panicked c => exact hQ _ _ _ (by simp) he
      | outgrown => exact let ⟨a, w, h⟩ := (he : LetsOut _); (⟨a, w, hQ _ _ _ (by simp) h⟩ : LetsOut _)
  | halt x w' =>
    cases x <;> simp only [Oper.uponIn] at h ⊢
    case panic u => exact hQ _ _ _ (by simp) h
theorem wpOpIn_swap2 {ops ops' : Array Oper} {i : Nat} {o : Oper} {a : Act} {w : World} {K K' : Act → World → Prop} {Q Q' : Exit → Act → World → Prop} (ho : ops[i]? = some o) (ho' : ops'[i]? = some o) (hg : o.guard = none) (hK : ∀ a w, K a w → K' a w) (hQ : ∀ e a w, e ≠ .normal → Q e a w → Q' e a w)
    (h : wpOpIn F m P ops Q i K a w) : wpOpIn F m P ops' Q' i K' a w := by
  have hw : ∀ y, Region.wanted o y = true := fun y => by simp [Region.wanted, hg]
  unfold wpOpIn at *
  simp only [ho, ho', hw, if_true] at h ⊢
  exact uponIn_swap hK hQ h
theorem wpAnyIn_done2 {md : Region.Mode} {ops : Array Oper} {L : Array Bool} {a : Act} {w : World} (h0 : Region.ready md ops L = []) (h : Q .normal a w) : ∀ fuel, wpAnyIn F m P md ops Q fuel L a w
  | 0 => ⟨h0, h⟩
  | fuel + 1 => ⟨fun _ => h, fun i hi => by rw [h0] at hi; cases hi⟩
theorem any_lastIn {l : List Oper} {n : Nat} (H : Last l n) {Q : Exit → Act → World → Prop} : ∀ (fuel : Nat) (L : Array Bool) (a : Act) (w : World), L.size = n → Down l n L →
    wpAnyIn F m P .any (l.take n).toArray (LastQIn F m P l.toArray (l.drop n) Q) fuel L a w → wpAnyIn F m P .any l.toArray Q (fuel + 1) (L.push false) a w := by
  obtain ⟨ol, hol⟩ : ∃ o, l[n]? = some o := ⟨_, List.getElem?_eq_getElem (by rw [H.size]; omega)⟩
  have hdrop : l.drop n = [ol] := by
    rw [List.drop_eq_getElem_cons (by rw [H.size]; omega), List.drop_eq_nil_of_le (by rw [H.size]; omega)]
    congr 1
    have := List.getElem?_eq_getElem (l := l) (i := n) (by rw [H.size]; omega)
    rw [this] at hol
    injection hol
  have hgl : ol.guard = none := H.plain ol (List.mem_of_getElem? hol)
  have hwl : ∀ y, Region.wanted ol y = true := fun y => by simp [Region.wanted, hgl]
  have hdone : ∀ (L : Array Bool), L.size = n → (∀ j, j < n → L.getD j true = true) → Region.ready .any l.toArray ((L.push false).setIfInBounds n true) = [] := by
    intro L hL hall
    refine List.eq_nil_iff_forall_not_mem.2 fun j hj => ?_
    obtain ⟨h0, o, ho, _⟩ := mem_ready.1 hj
    have hjn : j < n + 1 := by
      have := (List.getElem?_eq_some_iff.1 (by simpa using ho)).1
      rw [H.size] at this
      exact this
    by_cases hj2 : j = n
    · subst hj2
      simp [hL] at h0
    · rw [getD_set_ne true (Ne.symm hj2), getD_push_lt _ _ (by omega), hall j (by omega)] at h0
      cases h0
  have hlast : ∀ (fuel : Nat) (L : Array Bool) (a : Act) (w : World), L.size = n → (∀ j, j < n → L.getD j true = true) → LastQIn F m P l.toArray (l.drop n) Q .normal a w → wpOpIn F m P l.toArray Q n (wpAnyIn F m P .any l.toArray Q fuel ((L.push false).setIfInBounds n true)) a w := by
    intro fuel L a w hL hall h
    rw [hdrop] at h
    unfold LastQIn wpListIn at h
    simp only [hwl, if_true] at h
    unfold wpOpIn
    simp only [List.getElem?_toArray, hol, hwl, if_true]
    refine uponIn_swap (fun a w h => ?_) (fun _ _ _ _ h => h) h
    exact wpAnyIn_done2 (hdone L hL hall) (by simpa [wpListIn] using h) fuel
  intro fuel
  induction fuel with
  | zero =>
    intro L a w hL hd h
    have hall := all_of_none H h.1
    refine ⟨fun h0 => ?_, fun i hi => ?_⟩
    · have := (ready_last H hL hd).2 hall
      rw [h0] at this
      cases this
    · by_cases hin : i = n
      · subst hin
        exact hlast 0 L a w hL hall h.2
      · have hlt : i < n := by
          obtain ⟨_, o, ho, _⟩ := mem_ready.1 hi
          have := (List.getElem?_eq_some_iff.1 (by simpa using ho)).1
          rw [H.size] at this
          omega
        rw [ready_lt H hL hlt, h.1] at hi
        cases hi
  | succ fuel ih =>
    intro L a w hL hd h
    refine ⟨fun h0 => ?_, fun i hi => ?_⟩
    · by_cases hr : Region.ready .any (l.take n).toArray L = []
      · have := (ready_last H hL hd).2 (all_of_none H hr)
        rw [h0] at this
        cases this
      · obtain ⟨i, hi⟩ := List.exists_mem_of_ne_nil _ hr
        have := (ready_lt H hL (ready_init_lt hi)).2 hi
        rw [h0] at this
        cases this
    · by_cases hin : i = n
      · subst hin
        have hall := (ready_last H hL hd).1 hi
        have hnil : Region.ready .any (l.take i).toArray L = [] := by
          refine List.eq_nil_iff_forall_not_mem.2 fun j hj => ?_
          have h1 := (mem_ready.1 hj).1
          rw [hall j (ready_init_lt hj)] at h1
          cases h1
        exact hlast _ L a w hL hall (h.1 hnil)
      · have hlt : i < n := by
          obtain ⟨_, o, ho, _⟩ := mem_ready.1 hi
          have := (List.getElem?_eq_some_iff.1 (by simpa using ho)).1
          rw [H.size] at this
          omega
        have hi' := (ready_lt H hL hlt).1 hi
        obtain ⟨o, ho⟩ : ∃ o, l[i]? = some o := ⟨_, List.getElem?_eq_getElem (by rw [H.size]; omega)⟩
        refine wpOpIn_swap2 (ops := (l.take n).toArray) (by simpa [List.getElem?_take, hlt] using ho) (by simpa using ho) (H.plain o (List.mem_of_getElem? ho)) (fun a w h => ?_) (fun e a w he h => ?_) (h.2 i hi')
        · have h2 := ih (L.setIfInBounds i true) a w (by simpa using hL) (fun j oj hj hoj hlj e he hb => by
            by_cases hei : i = e.on
            · subst hei
              simp [show e.on < L.size from by omega]
            · rw [getD_set_ne false hei]
              by_cases hji : i = j
              · subst hji
                obtain ⟨_, o2, ho2, h2⟩ := mem_ready.1 hi'
                have e2 : o2 = oj := by
                  rw [take_get hlt] at ho2
                  simp only [List.getElem?_toArray] at ho2
                  rw [hoj] at ho2
                  exact (Option.some.inj ho2).symm
                subst e2
                exact h2 e he hb
              · rw [getD_set_ne false hji] at hlj
                exact hd j oj hj hoj hlj e he hb) h
          have e1 : (L.setIfInBounds i true).push false = (L.push false).setIfInBounds i true := by
            apply Array.ext_getElem?
            intro j
            simp only [Array.getElem?_push, Array.getElem?_setIfInBounds, Array.size_setIfInBounds, Array.size_push]
            by_cases e1 : j = L.size
            · subst e1
              have : i ≠ L.size := by omega
              simp [this]
            · by_cases e2 : i = j
              · subst e2
                simp [e1, show i < L.size from by omega, show i < L.size + 1 from by omega]
              · simp [e1, e2]
          rw [← e1]
          exact h2
        · cases e <;> first | exact absurd rfl he | exact h
theorem wpIn_region_lastR {id : Nat} {a : Act} {w : World} {l : List Oper} {l0 : Nat} (hm : P.follows .mixedOrders = true) (hB : lastB l (l.length - 1) = true) (hq : Region.lexB .any (l.take (l.length - 1)).toArray = true) (hnd : noDefer (l.take (l.length - 1)) = true)
    (h : wpQuietIn F m P (l.take (l.length - 1)).toArray (fun w' => ∃ n, w' = w.drewN n) (fun a' => ∀ w', (∃ n, w' = w.drewN n) → wpListIn (F.inRound l0) m P l.toArray Q (l.drop (l.length - 1)) a' w') (l.take (l.length - 1)) a) : (Code.region id l.toArray true).wpIn (F.inRound l0) m P Q a w := by
  obtain ⟨n, hn⟩ : ∃ n, l.length - 1 = n := ⟨_, rfl⟩
  rw [hn] at hB hq hnd h
  have H := lastB_spec hB
  refine wpIn_region_any hm ?_
  have hlen : (l.take n).length = n := by rw [List.length_take, H.size]; omega
  have h1 : wpAnyIn (F.inRound l0) m P .any (l.take n).toArray (LastQIn (F.inRound l0) m P l.toArray (l.drop n) Q) n (Array.replicate n false) a { w with drawn := w.drawn + 1 } := by
    simp only [Region.lexB, Bool.and_eq_true] at hq
    refine wpAnyIn_of_quietR (F := F) (C := fun w' => ∃ n, w' = w.drewN n) (Q := fun a' => ∀ w', (∃ n, w' = w.drewN n) → wpListIn (F.inRound l0) m P l.toArray Q (l.drop n) a' w') (by simpa using hnd) (fun _ w' hw' h => h w' hw') _ _ _ _ ⟨1, rfl⟩ ?_
    have := wpAnyQIn_lex (F := F) (n := m) (C := fun w' => ∃ n, w' = w.drewN n) (md := .any) hq.1 (l.take n) 0 (Array.replicate n false) a (by simp) (by rw [hlen]; simpa [hlen] using hq.2) h
    rw [hlen] at this
    exact this
  have := any_lastIn H n (Array.replicate n false) a _ (by simp) (fun j o hj ho hl => by simp [hj] at hl) h1
  rw [show l.toArray.size = n + 1 from by simp [H.size], Array.replicate_succ]
  exact this
end
end Go.Proofs.YtodledidabdkaaaDoor
