/- The document's table in memory: Find, walked once. No condition but that it lies as its sessions' cells, and is not great. -/
import Derived.Test.YtkipijdbkkcioaaCK
namespace Go.Proofs.Ytkipijdbkkcioaa
open Go.RowKit
set_option linter.unusedVariables false
set_option linter.unusedSimpArgs false
def findI (L : List (Int × Raw)) (id : Int) : Int := match L.findIdx? (fun x => x.1 == id) with | some i => (i : Int) | none => -1
theorem findI_at {L : List (Int × Raw)} {id : Int} {k : Nat} {x : Int × Raw} (h : L[k]? = some x) (he : x.1 = id) (hl : ∀ j < k, ∀ y, L[j]? = some y → y.1 ≠ id) : findI L id = k := by
  have : L.findIdx? (fun x => x.1 == id) = some k := by
    rw [List.findIdx?_eq_some_iff_getElem]
    obtain ⟨hk, hx⟩ := List.getElem?_eq_some_iff.1 h
    refine ⟨hk, by rw [hx]; simp [he], fun j hj => ?_⟩
    have := hl j hj _ (List.getElem?_eq_getElem (by omega))
    simpa using this
  rw [findI, this]
theorem findI_none {L : List (Int × Raw)} {id : Int} (hl : ∀ j < L.length, ∀ y, L[j]? = some y → y.1 ≠ id) : findI L id = -1 := by
  have : L.findIdx? (fun x => x.1 == id) = none := by
    rw [List.findIdx?_eq_none_iff]
    intro x hx
    obtain ⟨j, hj⟩ := List.mem_iff_getElem?.1 hx
    have := hl j (List.getElem?_eq_some_iff.1 hj).1 x hj
    simpa using this
  rw [findI, this]
set_option maxRecDepth 100000 in
theorem rfind_any (p : Nat) (L : List (Int × Raw)) (A : Option Addr) (c : Nat) (id : Int) (w : World) (hc : w.heap[p]? = some (.cells #[.slice A L.length c] 45 (0, 0))) (h : Foot All (Sl A L.length c 7 (ssc L)) w) (hl : L.length ≤ 1000000) :
    Calls Try.prog 32 #[.pointer (some ⟨p, 0, none⟩), .int .i64 id] w fun e w' => e = .returned (.int .i64 (findI L id)) ∧ Kp All w w' := by
  have H := hid h
  have c0 := blk_cell hc
  obtain ⟨n, hn⟩ : ∃ n, L.length = n := ⟨_, rfl⟩
  have HN := hid hn
  rw [hn] at hl c0
  clear h hc hn
  go_enter Try.func32, Try.ntmps32
  go_wp2_with fail
  go_loopw [12] (fun i wr => ∃ k : Nat, k ≤ n ∧ i = .int .i64 k ∧ Hid (∀ j < k, ∀ y, L[j]? = some y → y.1 ≠ id) ∧ Hid (Kp All w wr)) (fun i _ => n - (intOf i).toNat)
  case atStart => exact ⟨0, Nat.zero_le _, rfl, hid (fun j hj => absurd hj (by omega)), Kp.refl _ _⟩
  case round =>
    obtain ⟨k, hk, rfl, hno, hkp⟩ := hrel
    by_cases hlt : k < n
    · have hb0 : decide ((k : Int) < (n : Int)) = true := decide_eq_true (by omega)
      obtain ⟨y, hy⟩ : ∃ y, L[k]? = some y := ⟨_, List.getElem?_eq_getElem (by rw [HN.out]; exact hlt)⟩
      obtain ⟨_, _, h3⟩ := (H.out.step hkp.out).now
      obtain ⟨b, o, eA, hr⟩ := h3 (by rw [HN.out]; omega)
      have cc := fun i (hi : i < 7) z (hz : (sc7 y)[i]? = some z) => hr (k * 7 + i) z ((ssc_at hy i hi).trans hz)
      have p0 := cc 0 (by omega) _ rfl
      have p1 := cc 1 (by omega) _ rfl
      have p2 := cc 2 (by omega) _ rfl
      have p3 := cc 3 (by omega) _ rfl
      have p4 := cc 4 (by omega) _ rfl
      have p5 := cc 5 (by omega) _ rfl
      have p6 := cc 6 (by omega) _ rfl
      simp only [← Nat.add_assoc, Nat.add_zero] at p0 p1 p2 p3 p4 p5 p6
      subst eA
      have hb1 := World.block_lt_of_cell? _ _ p0
      have HY := hid hy
      obtain ⟨z, x⟩ := y
      dsimp only at p0 p1 p2 p3 p4 p5 p6
      have i0 : (0 : Int) ≤ (k : Int) := by omega
      have i1 : (k : Int) < (n : Int) := by omega
      clear hr cc h3 hy
      by_cases he : z = id
      · have hd : (z == id) = true := by simp [he]
        go_wp2_with fail
        go_ret
        exact ⟨by rw [findI_at HY.out he hno.out]; rfl, hkp.out.alloc _⟩
      · have hd : (z == id) = false := by simp [he]
        go_wp2_with fail
        refine ⟨⟨k + 1, by omega, by go_num, hid (fun j hj y hy => ?_), hkp.out.alloc _⟩, by simp [intOf]; omega⟩
        by_cases e : j = k
        · rw [e, HY.out] at hy
          injection hy with hy
          rw [← hy]; exact he
        · exact hno.out j (by omega) y hy
    · have hb0 : decide ((k : Int) < (n : Int)) = false := decide_eq_false (by omega)
      go_wp2_with fail
      go_ret
      have : k = n := by omega
      subst this
      exact ⟨by rw [findI_none (by rw [HN.out]; exact hno.out)]; rfl, hkp.out⟩
end Go.Proofs.Ytkipijdbkkcioaa
