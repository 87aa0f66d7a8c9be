/- Which names are good: the program's function and the document's. No condition but that the name is a string. -/
import Derived.Test.YtdlbccjimdghkaaDK
namespace Go.Proofs.Ytdlbccjimdghkaa
open Go.RowKit
set_option linter.unusedVariables false
def okc (n : Int) : Bool := (decide (97 ≤ n) && decide (n ≤ 122)) || (decide (48 ≤ n) && decide (n ≤ 57)) || decide (n = 46) || decide (n = 45)
def chr (s : Nm) (k : Nat) : Int := if h : k < s.size then (s[k].toNat : Int) else 0
def goodB (s : Nm) : Bool := decide (0 < s.size) && decide (s.size ≤ 24) && decide (97 ≤ chr s 0) && decide (chr s 0 ≤ 122) && (List.range s.size).all fun k => okc (chr s k)
theorem chr_at {s : Nm} {k : Nat} (h : k < s.size) : chr s k = (s[k].toNat : Int) := dif_pos h
theorem toList_nil {s : Nm} (h : s.size = 0) : s.toList = [] := by
  rw [ByteArray.toList_eq]
  exact List.eq_nil_of_length_eq_zero (by simpa using h)
theorem toList_ne {s : Nm} (h : 0 < s.size) : s.toList.isEmpty = false := by
  rw [ByteArray.toList_eq]
  cases hl : s.data.toList with
  | nil =>
    have : s.data.toList.length = 0 := by rw [hl]; rfl
    have h2 : s.data.toList.length = s.size := by simp
    omega
  | cons _ _ => rfl
theorem good_false {s : Nm} {k : Nat} (hk : k < s.size) (h : okc (chr s k) = false) : goodB s = false := by
  unfold goodB
  have : (List.range s.size).all (fun k => okc (chr s k)) = false := by
    rw [List.all_eq_false]
    exact ⟨k, List.mem_range.2 hk, by rw [h]; simp⟩
  rw [this, Bool.and_false]
theorem good_true {s : Nm} (h0 : 0 < s.size) (h1 : s.size ≤ 24) (h2 : 97 ≤ chr s 0) (h3 : chr s 0 ≤ 122) (h : ∀ k, k < s.size → okc (chr s k) = true) : goodB s = true := by
  unfold goodB
  have : (List.range s.size).all (fun k => okc (chr s k)) = true := by
    rw [List.all_eq_true]
    exact fun k hk => h k (List.mem_range.1 hk)
  rw [this]
  simp [h0, h1, h2, h3]

theorem okc_a {n : Int} (h1 : 97 ≤ n) (h2 : n ≤ 122) : okc n = true := by unfold okc; simp [h1, h2]
theorem okc_b {n : Int} (h1 : 48 ≤ n) (h2 : n ≤ 57) : okc n = true := by unfold okc; simp [h1, h2]
theorem okc_c {n : Int} (h : (n == 46) = true) : okc n = true := by unfold okc; simp at h; simp [h]
theorem okc_d {n : Int} (h : (n == 45) = true) : okc n = true := by unfold okc; simp at h; simp [h]
theorem okc_n {n : Int} (h1 : n < 97 ∨ 122 < n) (h2 : n < 48 ∨ 57 < n) (h3 : (n == 46) = false) (h4 : (n == 45) = false) : okc n = false := by
  simp at h3 h4
  unfold okc
  simp [h3, h4]
  omega
theorem all_succ {s : Nm} {k : Nat} (h : ∀ j, j < k → okc (chr s j) = true) (hk : okc (chr s k) = true) : ∀ j, j < k + 1 → okc (chr s j) = true := fun j hj => by
  by_cases e : j = k
  · rw [e]; exact hk
  · exact h j (by omega)
theorem chr7 (n : Int) : (97 ≤ n ∧ n ≤ 122 ∧ (n == 46) = false ∧ (n == 45) = false) ∨ (48 ≤ n ∧ n ≤ 57 ∧ (n == 46) = false ∧ (n == 45) = false) ∨ ((n == 46) = true ∧ n < 48 ∧ (n == 45) = false ∧ n < 97) ∨ ((n == 45) = true ∧ n < 48 ∧ (n == 46) = false ∧ n < 97) ∨
    (n < 48 ∧ n < 97 ∧ (n == 46) = false ∧ (n == 45) = false) ∨ (57 < n ∧ n < 97 ∧ (n == 46) = false ∧ (n == 45) = false) ∨ (122 < n ∧ 57 < n ∧ (n == 46) = false ∧ (n == 45) = false) := by
  simp only [beq_iff_eq, beq_eq_false_iff_ne]
  omega
set_option maxRecDepth 100000 in
set_option maxHeartbeats 1000000 in
theorem good_any (s : Nm) (hs : s.size ≤ 9223372036854775806) (w : World) :
    Calls Try.prog 9 #[.string s] w fun e w' => e = .returned (.bool (goodB s)) ∧ w = w' := by
  by_cases h0 : s.size = 0
  · have hf : goodB s = false := by unfold goodB; simp [h0]
    have ht := toList_nil h0
    rw [hf]
    go_enter Try.func9, Try.ntmps9
    go_wp2_with fail
    go_ret
    exact ⟨rfl, rfl⟩
  have hpos : 0 < s.size := by omega
  have hne := toList_ne hpos
  have hnn : ¬ s.toList = [] := fun h => by rw [h] at hne; cases hne
  clear h0
  by_cases h1 : s.size ≤ 24
  case neg =>
    have hf : goodB s = false := by unfold goodB; simp [h1]
    have h24 : (24 : Int) < (s.size : Int) := by omega
    have HF := hid hf
    clear hf h1
    go_enter Try.func9, Try.ntmps9
    go_wp2_with fail
    go_ret
    exact ⟨by rw [HF.out]; rfl, rfl⟩
  have h24 : (s.size : Int) ≤ 24 := by omega
  have hch := chr_at hpos
  by_cases h2 : 97 ≤ chr s 0
  case neg =>
    have hf : goodB s = false := by unfold goodB; simp [h2]
    rw [hch] at h2
    have h97 : ((s[0].toNat : Nat) : Int) < 97 := by omega
    have HF := hid hf
    clear hf h1 h2 hch
    go_enter Try.func9, Try.ntmps9
    go_wp2_with fail
    go_ret
    exact ⟨by rw [HF.out]; rfl, rfl⟩
  by_cases h3 : chr s 0 ≤ 122
  case neg =>
    have hf : goodB s = false := by unfold goodB; simp [h3]
    rw [hch] at h2 h3
    have h122 : (122 : Int) < ((s[0].toNat : Nat) : Int) := by omega
    have HF := hid hf
    clear hf h1 h3 hch
    go_enter Try.func9, Try.ntmps9
    go_wp2_with fail
    go_ret
    exact ⟨by rw [HF.out]; rfl, rfl⟩
  have HT : Hid ((∀ k, k < s.size → okc (chr s k) = true) → goodB s = true) := hid (good_true hpos h1 h2 h3)
  have HFF : Hid (∀ k, k < s.size → okc (chr s k) = false → goodB s = false) := hid fun k hk h => good_false hk h
  rw [hch] at h2 h3
  clear h1 hch
  go_enter Try.func9, Try.ntmps9
  go_wp2_with fail
  go_loopw [24] (fun i wr => ∃ k : Nat, k ≤ s.size ∧ i = .int .i64 k ∧ Hid (∀ j, j < k → okc (chr s j) = true) ∧ wr = w) (fun i _ => s.size - (intOf i).toNat)
  case atStart => exact ⟨0, Nat.zero_le _, rfl, fun j hj => absurd hj (Nat.not_lt_zero j), rfl⟩
  case round =>
    obtain ⟨k, hk, rfl, hall, rfl⟩ := hrel
    by_cases hlt : k < s.size
    · have hb0 : decide ((k : Int) < (s.size : Int)) = true := decide_eq_true (by omega)
      have i0 : (0 : Int) ≤ (k : Int) := by omega
      have i1 : (k : Int) < (s.size : Int) := by omega
      have HC : Hid (chr s k = (s[k].toNat : Int)) := hid (chr_at hlt)
      go_wp2_with fail
      all_goals first
        | (have hok : okc (chr s k) = true := (by rw [HC.out]; first | exact okc_a (by omega) (by omega) | exact okc_b (by omega) (by omega) | exact okc_c (by assumption) | exact okc_d (by assumption))
           exact ⟨⟨k + 1, by omega, by go_num, all_succ hall.out hok, trivial⟩, by simp [intOf]; omega⟩)
        | (have hno : okc (chr s k) = false := (by rw [HC.out]; exact okc_n (by omega) (by omega) (by assumption) (by assumption))
           go_ret
           exact ⟨by rw [HFF.out k hlt hno]; rfl, rfl⟩)
    · have hb0 : decide ((k : Int) < (s.size : Int)) = false := decide_eq_false (by omega)
      go_wp2_with fail
      go_ret
      exact ⟨by rw [HT.out (fun j hj => hall.out j (by omega))]; rfl, rfl⟩

set_option maxRecDepth 100000 in
set_option maxHeartbeats 1000000 in
theorem rgood_any (s : Nm) (hs : s.size ≤ 9223372036854775806) (w : World) :
    Calls Try.prog 10 #[.string s] w fun e w' => e = .returned (.bool (goodB s)) ∧ w = w' := by
  by_cases h0 : s.size = 0
  · have hf : goodB s = false := by unfold goodB; simp [h0]
    have ht := toList_nil h0
    rw [hf]
    go_enter Try.func10, Try.ntmps10
    go_wp2_with fail
    go_ret
    exact ⟨rfl, rfl⟩
  have hpos : 0 < s.size := by omega
  have hne := toList_ne hpos
  have hnn : ¬ s.toList = [] := fun h => by rw [h] at hne; cases hne
  clear h0
  by_cases h1 : s.size ≤ 24
  case neg =>
    have hf : goodB s = false := by unfold goodB; simp [h1]
    have h24 : (24 : Int) < (s.size : Int) := by omega
    have HF := hid hf
    clear hf h1
    go_enter Try.func10, Try.ntmps10
    go_wp2_with fail
    go_ret
    exact ⟨by rw [HF.out]; rfl, rfl⟩
  have h24 : (s.size : Int) ≤ 24 := by omega
  have hch := chr_at hpos
  by_cases h2 : 97 ≤ chr s 0
  case neg =>
    have hf : goodB s = false := by unfold goodB; simp [h2]
    rw [hch] at h2
    have h97 : ((s[0].toNat : Nat) : Int) < 97 := by omega
    have HF := hid hf
    clear hf h1 h2 hch
    go_enter Try.func10, Try.ntmps10
    go_wp2_with fail
    go_ret
    exact ⟨by rw [HF.out]; rfl, rfl⟩
  by_cases h3 : chr s 0 ≤ 122
  case neg =>
    have hf : goodB s = false := by unfold goodB; simp [h3]
    rw [hch] at h2 h3
    have h122 : (122 : Int) < ((s[0].toNat : Nat) : Int) := by omega
    have HF := hid hf
    clear hf h1 h3 hch
    go_enter Try.func10, Try.ntmps10
    go_wp2_with fail
    go_ret
    exact ⟨by rw [HF.out]; rfl, rfl⟩
  have HT : Hid ((∀ k, k < s.size → okc (chr s k) = true) → goodB s = true) := hid (good_true hpos h1 h2 h3)
  have HFF : Hid (∀ k, k < s.size → okc (chr s k) = false → goodB s = false) := hid fun k hk h => good_false hk h
  rw [hch] at h2 h3
  clear h1 hch
  go_enter Try.func10, Try.ntmps10
  go_wp2_with fail
  go_loopw [3] (fun i wr => ∃ k : Nat, k ≤ s.size ∧ i = .int .i64 k ∧ Hid (∀ j, j < k → okc (chr s j) = true) ∧ wr = w) (fun i _ => s.size - (intOf i).toNat)
  case atStart => exact ⟨0, Nat.zero_le _, rfl, fun j hj => absurd hj (Nat.not_lt_zero j), rfl⟩
  case round =>
    obtain ⟨k, hk, rfl, hall, rfl⟩ := hrel
    by_cases hlt : k < s.size
    · have hb0 : decide ((k : Int) < (s.size : Int)) = true := decide_eq_true (by omega)
      have i0 : (0 : Int) ≤ (k : Int) := by omega
      have i1 : (k : Int) < (s.size : Int) := by omega
      have HC : Hid (chr s k = (s[k].toNat : Int)) := hid (chr_at hlt)
      rcases chr7 (s[k].toNat : Int) with ⟨g1, g2, g3, g4⟩ | ⟨g1, g2, g3, g4⟩ | ⟨g1, g2, g3, g4⟩ | ⟨g1, g2, g3, g4⟩ | ⟨g1, g2, g3, g4⟩ | ⟨g1, g2, g3, g4⟩ | ⟨g1, g2, g3, g4⟩
      all_goals (go_wp2_with fail)
      all_goals first
        | (have hok : okc (chr s k) = true := (by rw [HC.out]; first | exact okc_a (by omega) (by omega) | exact okc_b (by omega) (by omega) | exact okc_c (by assumption) | exact okc_d (by assumption))
           exact ⟨⟨k + 1, by omega, by go_num, all_succ hall.out hok, trivial⟩, by simp [intOf]; omega⟩)
        | (have hno : okc (chr s k) = false := (by rw [HC.out]; exact okc_n (by omega) (by omega) (by assumption) (by assumption))
           go_ret
           exact ⟨by rw [HFF.out k hlt hno]; rfl, rfl⟩)
        | (rename_i hx; exfalso; simp at hx; omega)
    · have hb0 : decide ((k : Int) < (s.size : Int)) = false := decide_eq_false (by omega)
      go_wp2_with fail
      go_ret
      exact ⟨by rw [HT.out (fun j hj => hall.out j (by omega))]; rfl, rfl⟩
end Go.Proofs.Ytdlbccjimdghkaa
