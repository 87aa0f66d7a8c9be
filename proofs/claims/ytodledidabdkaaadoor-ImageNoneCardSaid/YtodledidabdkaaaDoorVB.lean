import Derived.Test.YtodledidabdkaaaDoorVA
/- The order in which groups are looked at: plain words, with no program in sight. No condition. -/
namespace Go.Proofs.YtodledidabdkaaaDoor.V
set_option linter.unusedVariables false
set_option linter.unusedSimpArgs false
/-- the group at a step -/
def seqAt (h g : Nat) : Nat → Nat
  | 0 => h % g
  | i + 1 => (seqAt h g i + (i + 1)) % g
def seqP (h g : Nat) : List Nat := (List.range g).map (seqAt h g)
def tri : Nat → Nat
  | 0 => 0
  | i + 1 => tri i + (i + 1)
theorem two_tri : ∀ i, 2 * tri i = i * (i + 1)
  | 0 => rfl
  | i + 1 => by
    have := two_tri i
    simp only [tri]
    rw [Nat.mul_add, this, ← Nat.add_mul, Nat.mul_comm]
theorem tri_div (i : Nat) : tri i = i * (i + 1) / 2 := by
  have := two_tri i
  omega
theorem seqAt_tri (h g : Nat) : ∀ i, seqAt h g i = (h + tri i) % g
  | 0 => by simp [seqAt, tri]
  | i + 1 => by
    rw [seqAt, seqAt_tri h g i, tri, Nat.mod_add_mod, Nat.add_assoc]
theorem seqAt_lt (h g i : Nat) (hg : 0 < g) : seqAt h g i < g := by
  rw [seqAt_tri]; exact Nat.mod_lt _ hg
theorem len_le : ∀ {l m : List Nat}, l.Nodup → (∀ x ∈ l, x ∈ m) → l.length ≤ m.length
  | [], m, _, _ => Nat.zero_le _
  | a :: r, m, h, hs => by
    have ha := hs a (List.mem_cons_self ..)
    have h1 := len_le (l := r) (m := m.erase a) (List.nodup_cons.1 h).2 (fun x hx => by
      have hne : x ≠ a := fun e => (List.nodup_cons.1 h).1 (e ▸ hx)
      exact (List.mem_erase_of_ne hne).2 (hs x (List.mem_cons_of_mem _ hx)))
    have h2 := List.length_erase_of_mem ha
    have h3 := List.length_pos_of_mem ha
    simp only [List.length_cons]
    omega
theorem pigeon {n : Nat} {l : List Nat} (h : l.Nodup) (hl : l.length = n) (hlt : ∀ x ∈ l, x < n) : ∀ j, j < n → j ∈ l := by
  intro j hj
  apply Classical.byContradiction
  intro hn
  have h1 := len_le (l := j :: l) (m := List.range n) (List.nodup_cons.2 ⟨hn, h⟩) (fun x hx => by
    rcases List.mem_cons.1 hx with rfl | hx
    · exact List.mem_range.2 hj
    · exact List.mem_range.2 (hlt x hx))
  simp only [List.length_cons, List.length_range] at h1
  omega
theorem odd_coprime (k a : Nat) (ha : a % 2 = 1) : Nat.Coprime (2 ^ k) a := by
  apply Nat.Coprime.pow_left
  rw [Nat.coprime_comm]
  unfold Nat.Coprime
  have h1 := Nat.gcd_dvd_right a 2
  have h2 := Nat.gcd_dvd_left a 2
  have h3 := Nat.le_of_dvd (by omega) h1
  have h4 : a.gcd 2 ≠ 0 := fun e => by rw [e] at h1; omega
  have h5 : a.gcd 2 ≠ 2 := fun e => by rw [e] at h2; omega
  omega
theorem tri_inj (k h i j : Nat) (hij : i < j) (hj : j < 2 ^ k) (e : (h + tri i) % 2 ^ k = (h + tri j) % 2 ^ k) : False := by
  have ti := two_tri i
  have tj := two_tri j
  have hle : tri i ≤ tri j := by
    have : i * (i + 1) ≤ j * (j + 1) := Nat.mul_le_mul (by omega) (by omega)
    omega
  have hd : 2 ^ k ∣ tri j - tri i := by
    have := Nat.dvd_of_mod_eq_zero (Nat.sub_mod_eq_zero_of_mod_eq e.symm)
    rwa [Nat.add_sub_add_left] at this
  obtain ⟨m, hm⟩ := hd
  obtain ⟨d, rfl⟩ : ∃ d, j = i + d := ⟨j - i, by omega⟩
  have hprod : d * (2 * i + d + 1) = 2 ^ (k + 1) * m := by
    have h1 : (i + d) * (i + d + 1) = i * (i + 1) + d * (2 * i + d + 1) := by
      rw [show 2 * i = i + i from by omega]
      simp only [Nat.add_mul, Nat.mul_add, Nat.mul_one]
      rw [Nat.mul_comm d i]
      omega
    rw [Nat.pow_succ, Nat.mul_assoc, Nat.mul_left_comm, ← hm]
    omega
  have hdv : 2 ^ (k + 1) ∣ d * (2 * i + d + 1) := ⟨m, hprod⟩
  have h2 : 2 ^ (k + 1) = 2 * 2 ^ k := by rw [Nat.pow_succ]; omega
  by_cases hp : d % 2 = 1
  · have h3 := (odd_coprime (k + 1) d hp).dvd_of_dvd_mul_left hdv
    have := Nat.le_of_dvd (by omega) h3
    omega
  · have h3 := (odd_coprime (k + 1) (2 * i + d + 1) (by omega)).dvd_of_dvd_mul_right hdv
    have := Nat.le_of_dvd (by omega) h3
    omega
theorem seqP_len (h g : Nat) : (seqP h g).length = g := by simp [seqP]
/-- every group is met -/
theorem seq_all (h k j : Nat) (hj : j < 2 ^ k) : ∃ t, t < 2 ^ k ∧ seqAt h (2 ^ k) t = j := by
  have hp : 0 < 2 ^ k := Nat.pow_pos (by omega)
  have hn : (seqP h (2 ^ k)).Nodup := by
    unfold seqP
    rw [List.nodup_iff_pairwise_ne, List.pairwise_map]
    refine List.pairwise_lt_range.imp_of_mem ?_
    intro a b ha hb hab e
    rw [seqAt_tri, seqAt_tri] at e
    exact tri_inj k h a b hab (List.mem_range.1 hb) e
  have := pigeon hn (seqP_len _ _) (fun x hx => by
    obtain ⟨t, _, rfl⟩ := List.mem_map.1 hx
    exact seqAt_lt _ _ _ hp) j hj
  obtain ⟨t, ht, e⟩ := List.mem_map.1 this
  exact ⟨t, List.mem_range.1 ht, e⟩
theorem pow_good : ∀ k : Fin 11, 1 ≤ 2 ^ k.val ∧ 2 ^ k.val ≤ 1024 ∧ 2 ^ k.val &&& (2 ^ k.val - 1) = 0 := by decide +kernel
theorem seqP_get {h g i : Nat} (hi : i < g) : (seqP h g)[i]? = some (seqAt h g i) := by
  unfold seqP
  simp [hi]
/-- how many groups so many keys need -/
def needP (n : Nat) : Nat := if n ≤ 7 then 1 else if n ≤ 14 then 2 else if n ≤ 28 then 4 else if n ≤ 56 then 8 else if n ≤ 112 then 16 else if n ≤ 224 then 32 else if n ≤ 448 then 64 else if n ≤ 896 then 128 else if n ≤ 1792 then 256 else if n ≤ 3584 then 512 else if n ≤ 7168 then 1024 else 0
end Go.Proofs.YtodledidabdkaaaDoor.V
