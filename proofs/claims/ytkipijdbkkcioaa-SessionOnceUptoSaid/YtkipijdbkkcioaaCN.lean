/- The document's table in memory: Ask, walked once. No condition but that it lies as its sessions' cells, and is not great. -/
import Derived.Test.YtkipijdbkkcioaaCM
namespace Go.Proofs.Ytkipijdbkkcioaa
open Go.RowKit
set_option linter.unusedVariables false
set_option linter.unusedSimpArgs false
theorem findI_cases (L : List (Int × Raw)) (id : Int) : (findI L id = -1 ∧ ∀ x ∈ L, x.1 ≠ id) ∨ ∃ k x, findI L id = (k : Nat) ∧ L[k]? = some x ∧ x.1 = id ∧ k < L.length := by
  cases h : L.findIdx? (fun x => x.1 == id) with
  | none =>
    refine .inl ⟨by rw [findI, h], fun x hx => ?_⟩
    rw [List.findIdx?_eq_none_iff] at h
    simpa using h x hx
  | some k =>
    rw [List.findIdx?_eq_some_iff_getElem] at h
    obtain ⟨hk, h1, _⟩ := h
    exact .inr ⟨k, L[k], by
      rw [findI]
      rw [show L.findIdx? (fun x => x.1 == id) = some k from by
        rw [List.findIdx?_eq_some_iff_getElem]; exact ⟨hk, h1, by assumption⟩], List.getElem?_eq_getElem hk, by simpa using h1, hk⟩
/-- What the document's Ask tells. -/
def askOf (L : List (Int × Raw)) (id seq : Int) : Raw × Int := match findI L id with
  | .negSucc _ => (.z, 14)
  | .ofNat k => match L[k]? with
    | some x => if seq < x.2.seq ∨ seq < 1 then (.z, 15) else if seq = x.2.seq then (x.2, 0) else (.z, 4)
    | none => (.z, 14)
set_option maxRecDepth 100000 in
theorem rask_any (p : Nat) (L : List (Int × Raw)) (A : Option Addr) (c : Nat) (id seq : Int) (w : World) (hc : w.heap[p]? = some (.cells #[.slice A L.length c] 45 (0, 0))) (h : Foot All (Sl A L.length c 7 (ssc L)) w) (hl : L.length ≤ 1000000) :
    Calls Try.prog 18 #[.pointer (some ⟨p, 0, none⟩), .int .i64 id, .int .i64 seq] w fun e w' => e = .returned (.tuple #[RV (askOf L id seq).1.r (askOf L id seq).1.A (askOf L id seq).1.c, .int .i64 (askOf L id seq).2]) ∧ Kp All w w' := by
  have H := hid h
  have HC := hid hc
  have HL := hid hl
  clear h hc hl
  rcases findI_cases L id with ⟨hf, hno⟩ | ⟨k, x, hf, hx, he, hk⟩
  · go_enter Try.func18, Try.ntmps18
    go_wp2_with fail
    refine (rfind_any p L A c id _ (blk_alloc HC.out _) (H.out.step (Kp.al _ _)) HL.out).mono ?_
    rintro e w1 ⟨rfl, hk⟩
    rw [hf]
    have HK := hid hk
    clear hk
    have b0 := HK.out.heap (blk_new w (.cells #[.int .i64 0, .bool false, .string ⟨#[]⟩, .int .i64 0, .slice none 0 0] 26)) trivial
    have c1 := blk_cell b0
    have f1 := blk_free b0
    go_wp2_with fail
    have ha : askOf L id seq = (.z, 14) := by rw [askOf, hf]; rfl
    refine bodyPost_ret (v := .tuple #[RV .z none 0, .int .i64 14]) (by simp [results, Try.results18, go_sem, c1, f1, RD.z]) rfl ⟨by rw [ha]; rfl, ?_⟩
    have hk : Kp All w w1 := (Kp.al _ _).trans HK.out
    repeat (first | (with_reducible exact hk) | refine Kp.setNew ?_ (by omega) _)
  · go_enter Try.func18, Try.ntmps18
    go_wp2_with fail
    refine (rfind_any p L A c id _ (blk_alloc HC.out _) (H.out.step (Kp.al _ _)) HL.out).mono ?_
    rintro e w1 ⟨rfl, hk'⟩
    rw [hf]
    have HK := hid hk'
    clear hk'
    have b0 := HK.out.heap (blk_new w (.cells #[.int .i64 0, .bool false, .string ⟨#[]⟩, .int .i64 0, .slice none 0 0] 26)) trivial
    have c1 := blk_cell b0
    have f1 := blk_free b0
    have c0 := blk_cell (HK.out.heap (blk_alloc HC.out _) trivial)
    have hkw : Kp All w w1 := (Kp.al _ _).trans HK.out
    obtain ⟨_, _, h3⟩ := (H.out.step hkw).now
    obtain ⟨b, o, eA, hr⟩ := h3 (by omega)
    have cc := fun i (hi : i < 7) z (hz : (sc7 x)[i]? = some z) => hr (k * 7 + i) z ((ssc_at hx i hi).trans hz)
    have p0 := cc 0 (by omega) _ rfl
    have p1 := cc 1 (by omega) _ rfl
    have p2 := cc 2 (by omega) _ rfl
    have p3 := cc 3 (by omega) _ rfl
    have p4 := cc 4 (by omega) _ rfl
    have p5 := cc 5 (by omega) _ rfl
    have p6 := cc 6 (by omega) _ rfl
    simp only [← Nat.add_assoc, Nat.add_zero] at p0 p1 p2 p3 p4 p5 p6
    subst eA
    have i0 : (0 : Int) ≤ (k : Int) := by omega
    have i1 : (k : Int) < (L.length : Int) := by omega
    have dk : decide ((k : Int) < 0) = false := decide_eq_false (by omega)
    obtain ⟨z, x⟩ := x
    dsimp only at p0 p1 p2 p3 p4 p5 p6
    have HX := hid hx
    have HF := hid hf
    clear hr cc h3 hx hf
    by_cases h1 : seq < x.seq
    · have d1 : decide (seq < x.seq) = true := decide_eq_true h1
      go_wp2_with fail
      have ha : askOf L id seq = (.z, 15) := by rw [askOf, HF.out]; simp [HX.out, h1]
      refine bodyPost_ret (v := .tuple #[RV .z none 0, .int .i64 15]) (by simp [results, Try.results18, go_sem, c1, f1, RD.z]) rfl ⟨by rw [ha]; rfl, ?_⟩
      repeat (first | (with_reducible exact hkw) | refine Kp.setNew ?_ (by omega) _)
    · have d1 : decide (seq < x.seq) = false := decide_eq_false h1
      by_cases h2 : seq < 1
      · have d2 : decide (seq < 1) = true := decide_eq_true h2
        go_wp2_with fail
        have ha : askOf L id seq = (.z, 15) := by rw [askOf, HF.out]; simp [HX.out, h2]
        refine bodyPost_ret (v := .tuple #[RV .z none 0, .int .i64 15]) (by simp [results, Try.results18, go_sem, c1, f1, RD.z]) rfl ⟨by rw [ha]; rfl, ?_⟩
        repeat (first | (with_reducible exact hkw) | refine Kp.setNew ?_ (by omega) _)
      · have d2 : decide (seq < 1) = false := decide_eq_false h2
        by_cases h3 : seq = x.seq
        · have d3 : (seq == x.seq) = true := by simp [h3]
          go_wp2_with fail
          have ha : askOf L id seq = (x, 0) := by rw [askOf, HF.out]; simp only [HX.out]; rw [if_neg (by omega), if_pos h3]
          refine bodyPost_ret (v := .tuple #[RV x.r x.A x.c, .int .i64 0]) (by simp [results, Try.results18, go_sem, c1, f1]) rfl ⟨by rw [ha], ?_⟩
          repeat (first | (with_reducible exact hkw) | refine Kp.setNew ?_ (by omega) _)
        · have d3 : (seq == x.seq) = false := by simp [h3]
          go_wp2_with fail
          have ha : askOf L id seq = (.z, 4) := by rw [askOf, HF.out]; simp only [HX.out]; rw [if_neg (by omega), if_neg h3]
          refine bodyPost_ret (v := .tuple #[RV .z none 0, .int .i64 4]) (by simp [results, Try.results18, go_sem, c1, f1, RD.z]) rfl ⟨by rw [ha]; rfl, ?_⟩
          repeat (first | (with_reducible exact hkw) | refine Kp.setNew ?_ (by omega) _)
end Go.Proofs.Ytkipijdbkkcioaa
