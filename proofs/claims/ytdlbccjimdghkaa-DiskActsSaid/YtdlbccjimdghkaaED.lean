/- few: how much the acts are: walked once. No condition but that the acts lie as they were given. -/
import Derived.Test.YtdlbccjimdghkaaDT
import Derived.Test.YtdlbccjimdghkaaEC
namespace Go.Proofs.Ytdlbccjimdghkaa
open Go.RowKit
set_option linter.unusedVariables false
/-- the acts lie from b, o on -/
def Acts8 (b o : Nat) (xs : List A8) (w : World) : Prop := ∀ k x, xs[k]? = some x → (∀ j u, (a8cells x)[j]? = some u → w.cell? ⟨b, o + k * 6 + j, none⟩ = some u) ∧ Sl x.A x.data.length x.c 1 (u8s x.data) w
def AS (A : Option Addr) (xs : List A8) (w : World) : Prop := 0 < xs.length → ∃ b o, A = some ⟨b, o, none⟩ ∧ Acts8 b o xs w
def wt (x : A8) : Nat := 1 + x.data.length / 50 + (x.a.size + x.b.size) / 50
def tot (xs : List A8) : Nat := (xs.map wt).sum
theorem tot_take {xs : List A8} {k : Nat} {x : A8} (h : xs[k]? = some x) : tot (xs.take (k + 1)) = tot (xs.take k) + wt x := by
  rw [List.take_add_one, h]
  simp [tot]
theorem tot_take_le (xs : List A8) (k : Nat) : tot (xs.take k) ≤ tot xs := by
  have h := congrArg tot (List.take_append_drop k xs)
  simp only [tot, List.map_append, List.sum_append] at h ⊢
  omega
def fine8 (x : A8) : Prop := x.data.length ≤ 140737488351232 ∧ x.a.size ≤ 140737488351232 ∧ x.b.size ≤ 140737488351232
/-- answers b, and leaves what was there -/
def Boo (b : Bool) (w : World) (e : Ending) (w' : World) : Prop := e = .returned (.bool b) ∧ Kp All w w'
set_option maxRecDepth 100000 in
set_option maxHeartbeats 1000000 in
theorem few_any (A : Option Addr) (c : Nat) (xs : List A8) (n : Nat) (hn : xs.length = n) (w : World) (hs : Foot All (AS A xs) w) (hl : n ≤ 140737488351232) (hf : ∀ x ∈ xs, fine8 x) :
    Calls Try.prog 12 #[.slice A n c] w (Boo (decide (tot xs ≤ 300)) w) := by
  have HS := hid hs; have HN := hid hn; have HF := hid hf
  clear hs hn hf
  go_enter Try.func12, Try.ntmps12
  go_wp2_with fail
  go_loopw [3, 8] (fun s i wr => ∃ k t : Nat, k ≤ n ∧ i = .int .i64 k ∧ s = .int .i64 t ∧ t ≤ 300 ∧ Hid (t = tot (xs.take k)) ∧ Hid (Kp All w wr)) (fun _ i _ => n - (intOf i).toNat)
  case atStart => exact ⟨0, 0, Nat.zero_le _, rfl, rfl, by omega, rfl, Kp.refl _ _⟩
  case round =>
    obtain ⟨k, t, hk, rfl, rfl, ht, htt, hkp⟩ := hrel
    by_cases hlt : k < n
    · have hb0 : decide ((k : Int) < (n : Int)) = true := decide_eq_true (by omega)
      have i0 : (0 : Int) ≤ (k : Int) := by omega
      have i1 : (k : Int) < (n : Int) := by omega
      obtain ⟨x, hx⟩ : ∃ x, xs[k]? = some x := ⟨_, List.getElem?_eq_getElem (by rw [HN.out]; exact hlt)⟩
      have hfx := HF.out x (List.mem_of_getElem? hx)
      have htk := tot_take hx
      have htl := tot_take_le xs (k + 1)
      rw [htk, ← htt.out] at htl
      obtain ⟨b, o, rfl, hA⟩ := HS.out wr hkp.out (by rw [HN.out]; omega)
      have hc := (hA k x hx).1
      have d0 := hc 0 _ rfl; have d1 := hc 1 _ rfl; have d2 := hc 2 _ rfl; have d3 := hc 3 _ rfl; have d4 := hc 4 _ rfl; have d5 := hc 5 _ rfl
      rw [Nat.add_zero] at d0
      obtain ⟨f1, f2, f3⟩ := hfx
      have HX := hid hx
      have hw : wt x = 1 + x.data.length / 50 + (x.a.size + x.b.size) / 50 := rfl
      rw [hw] at htk htl
      have hbox := blk_cell (blk_new wr (.cells (a8cells x).toArray 34))
      unfold a8cells at hbox
      obtain ⟨ld, hld⟩ : ∃ z, x.data.length = z := ⟨_, rfl⟩
      obtain ⟨la, hla⟩ : ∃ z, x.a.size = z := ⟨_, rfl⟩
      obtain ⟨lb, hlb⟩ : ∃ z, x.b.size = z := ⟨_, rfl⟩
      have HTK := hid htk
      clear hc htk hx hw hA
      by_cases h300 : t + (1 + ld / 50 + (la + lb) / 50) ≤ 300
      · go_wp2_with fail
        exact ⟨⟨k + 1, t + (1 + ld / 50 + (la + lb) / 50), by omega, by go_num, by go_num, by omega, by have e := HTK.out; rw [hld, hla, hlb, ← htt.out] at e; exact hid e.symm, hkp.out.alloc _⟩, by simp [intOf]; omega⟩
      · have h301 : 300 < (t : Int) + (1 + (ld : Int) / 50 + ((la : Int) + (lb : Int)) / 50) := by omega
        go_wp2_with fail
        go_ret
        have hd : decide (tot xs ≤ 300) = false := decide_eq_false (by omega)
        exact ⟨by rw [hd]; rfl, hkp.out.alloc _⟩
    · have hb0 : decide ((k : Int) < (n : Int)) = false := decide_eq_false (by omega)
      go_wp2_with fail
      go_ret
      have hd : decide (tot xs ≤ 300) = true := by
        have : xs.take k = xs := List.take_of_length_le (by rw [HN.out]; omega)
        have h2 := htt.out
        rw [this] at h2
        exact decide_eq_true (by omega)
      exact ⟨by rw [hd]; rfl, hkp.out⟩
end Go.Proofs.Ytdlbccjimdghkaa
