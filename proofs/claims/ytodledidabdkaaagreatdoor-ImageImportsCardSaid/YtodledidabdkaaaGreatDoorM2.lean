/- Words of eight bytes and sets of eight bits: plain words, with no program in sight. No condition. The order in which groups are looked at: plain words, with no program in sight. No condition. The map of groups as it lies: plain words, with no program in sight. No condition. Pairs by keys: plain words, with no program in sight. No condition. SipHash-2-4: plain words, with no program in sight. No condition. -/
set_option linter.unusedVariables false
set_option linter.unusedSimpArgs false
namespace Go.Proofs.YtodledidabdkaaaGreatDoor.V
set_option linter.unusedVariables false
set_option linter.unusedSimpArgs false
/-- a number of bytes, the lowest first -/
def wd : List Nat → Nat
  | [] => 0
  | b :: r => b + 256 * wd r
abbrev Bt (l : List Nat) : Prop := ∀ b ∈ l, b < 256
theorem wd_lt : ∀ (l : List Nat), Bt l → wd l < 256 ^ l.length
  | [], _ => by simp [wd]
  | b :: r, h => by
    have h1 := wd_lt r (fun x hx => h x (List.mem_cons_of_mem _ hx))
    have h2 := h b (List.mem_cons_self ..)
    simp only [wd, List.length_cons, Nat.pow_succ]
    omega
theorem wd_lt8 {l : List Nat} (h : Bt l) (h8 : l.length = 8) : wd l < 18446744073709551616 := by
  have := wd_lt l h
  rw [h8] at this
  exact this
theorem tb (a b j : Nat) (h : b < 256) : (b + 256 * a).testBit j = if j < 8 then b.testBit j else a.testBit (j - 8) := by
  rw [Nat.add_comm]
  exact Nat.testBit_two_pow_mul_add a (i := 8) h j
theorem and256 (a b q r : Nat) (ha : a < 256) (hb : b < 256) : (a + 256 * q) &&& (b + 256 * r) = (a &&& b) + 256 * (q &&& r) := by
  apply Nat.eq_of_testBit_eq
  intro j
  rw [Nat.testBit_and, tb _ _ _ ha, tb _ _ _ hb, tb _ _ _ (Nat.and_lt_two_pow (n := 8) _ hb)]
  split <;> simp
theorem or256 (a b q r : Nat) (ha : a < 256) (hb : b < 256) : (a + 256 * q) ||| (b + 256 * r) = (a ||| b) + 256 * (q ||| r) := by
  apply Nat.eq_of_testBit_eq
  intro j
  rw [Nat.testBit_or, tb _ _ _ ha, tb _ _ _ hb, tb _ _ _ (Nat.or_lt_two_pow (n := 8) ha hb)]
  split <;> simp
theorem xor256 (a b q r : Nat) (ha : a < 256) (hb : b < 256) : (a + 256 * q) ^^^ (b + 256 * r) = (a ^^^ b) + 256 * (q ^^^ r) := by
  apply Nat.eq_of_testBit_eq
  intro j
  rw [Nat.testBit_xor, tb _ _ _ ha, tb _ _ _ hb, tb _ _ _ (Nat.xor_lt_two_pow (n := 8) ha hb)]
  split <;> simp
theorem wd_op (op : Nat → Nat → Nat) (h0 : op 0 0 = 0) (hop : ∀ a b q r, a < 256 → b < 256 → op (a + 256 * q) (b + 256 * r) = op a b + 256 * op q r) (c : Nat) (hc : c < 256) :
    ∀ (l : List Nat), Bt l → op (wd l) (wd (List.replicate l.length c)) = wd (l.map fun b => op b c)
  | [], _ => h0
  | b :: r, h => by
    simp only [wd, List.length_cons, List.replicate_succ, List.map_cons]
    rw [hop _ _ _ _ (h b (List.mem_cons_self ..)) hc, wd_op op h0 hop c hc r (fun x hx => h x (List.mem_cons_of_mem _ hx))]
theorem wd_op2 (op : Nat → Nat → Nat) (h0 : op 0 0 = 0) (hop : ∀ a b q r, a < 256 → b < 256 → op (a + 256 * q) (b + 256 * r) = op a b + 256 * op q r) (f g : Nat → Nat) :
    ∀ (l : List Nat), (∀ b ∈ l, f b < 256) → (∀ b ∈ l, g b < 256) → op (wd (l.map f)) (wd (l.map g)) = wd (l.map fun b => op (f b) (g b))
  | [], _, _ => h0
  | b :: r, h1, h2 => by
    simp only [wd, List.map_cons]
    rw [hop _ _ _ _ (h1 b (List.mem_cons_self ..)) (h2 b (List.mem_cons_self ..)), wd_op2 op h0 hop f g r (fun x hx => h1 x (List.mem_cons_of_mem _ hx)) (fun x hx => h2 x (List.mem_cons_of_mem _ hx))]
theorem wd_rep (c : Nat) : wd (List.replicate 8 c) = c * 72340172838076673 := by
  simp only [List.replicate, wd]; omega
theorem map_const {l : List Nat} (h8 : l.length = 8) (c : Nat) : l.map (fun _ => c) = List.replicate 8 c := by
  rw [List.map_const', h8]
theorem wd_mapc {l : List Nat} (h8 : l.length = 8) (c : Nat) : wd (l.map fun _ => c) = c * 72340172838076673 := by rw [map_const h8, wd_rep]
theorem wd_add (f g : Nat → Nat) : ∀ (l : List Nat), wd (l.map f) + wd (l.map g) = wd (l.map fun b => f b + g b)
  | [] => rfl
  | b :: r => by
    have := wd_add f g r
    simp only [wd, List.map_cons]; omega
theorem wd_mul (c : Nat) (f : Nat → Nat) : ∀ (l : List Nat), c * wd (l.map f) = wd (l.map fun b => c * f b)
  | [] => rfl
  | b :: r => by
    have := wd_mul c f r
    simp only [wd, List.map_cons, ← this, Nat.mul_add]
    rw [Nat.mul_left_comm]
theorem wd_congr {f g : Nat → Nat} {l : List Nat} (h : ∀ b ∈ l, f b = g b) : wd (l.map f) = wd (l.map g) := by rw [List.map_congr_left h]
theorem map_id' (l : List Nat) : l.map (fun b => b) = l := List.map_id' l
/-- the sets: a bit an element -/
def bitsOf (p : Nat → Bool) : List Nat → Nat
  | [] => 0
  | b :: r => (if p b then 1 else 0) + 2 * bitsOf p r
theorem bits_lt (p : Nat → Bool) : ∀ l : List Nat, bitsOf p l < 2 ^ l.length
  | [] => by simp [bitsOf]
  | b :: r => by
    have := bits_lt p r
    simp only [bitsOf, List.length_cons, Nat.pow_succ]
    split <;> omega
theorem bits_test (p : Nat → Bool) : ∀ (l : List Nat) (i : Nat), (bitsOf p l).testBit i = (l[i]?.map p).getD false
  | [], i => by simp [bitsOf]
  | b :: r, 0 => by
    simp only [bitsOf, List.getElem?_cons_zero, Option.map_some, Option.getD_some]
    rw [Nat.testBit_zero]
    cases h : p b <;> simp <;> omega
  | b :: r, i + 1 => by
    have := bits_test p r i
    rw [List.getElem?_cons_succ, ← this, bitsOf, Nat.testBit_succ]
    congr 1
    split <;> omega
theorem bits_congr {p q : Nat → Bool} : ∀ {l : List Nat}, (∀ b ∈ l, p b = q b) → bitsOf p l = bitsOf q l
  | [], _ => rfl
  | b :: r, h => by rw [bitsOf, bitsOf, h b (List.mem_cons_self ..), bits_congr (fun x hx => h x (List.mem_cons_of_mem _ hx))]
theorem bits_or (p q : Nat → Bool) (l : List Nat) : bitsOf p l ||| bitsOf q l = bitsOf (fun b => p b || q b) l := by
  apply Nat.eq_of_testBit_eq
  intro j
  rw [Nat.testBit_or, bits_test, bits_test, bits_test]
  cases l[j]? <;> rfl
theorem gather_tab : ∀ n : Fin 256, (n.val % 2 + 256 * (n.val / 2 % 2 + 256 * (n.val / 2 / 2 % 2 + 256 * (n.val / 2 / 2 / 2 % 2 + 256 * (n.val / 2 / 2 / 2 / 2 % 2 + 256 * (n.val / 2 / 2 / 2 / 2 / 2 % 2 + 256 * (n.val / 2 / 2 / 2 / 2 / 2 / 2 % 2 + 256 * (n.val / 2 / 2 / 2 / 2 / 2 / 2 / 2 % 2)))))))) * 72624976668147840 % 18446744073709551616 / 72057594037927936 = n.val := by decide +kernel
theorem gather_at (n : Nat) (hn : n < 2 * 128) : (n % 2 + 256 * (n / 2 % 2 + 256 * (n / 2 / 2 % 2 + 256 * (n / 2 / 2 / 2 % 2 + 256 * (n / 2 / 2 / 2 / 2 % 2 + 256 * (n / 2 / 2 / 2 / 2 / 2 % 2 + 256 * (n / 2 / 2 / 2 / 2 / 2 / 2 % 2 + 256 * (n / 2 / 2 / 2 / 2 / 2 / 2 / 2 % 2)))))))) * 72624976668147840 % 18446744073709551616 / 72057594037927936 = n := gather_tab ⟨n, hn⟩
/-- the highest bits of all bytes, gathered -/
theorem gather_eq (l : List Nat) (hb : Bt l) (h8 : l.length = 8) : ((wd l &&& 9259542123273814144) / 128 * 72624976668147840) % 18446744073709551616 / 72057594037927936 = bitsOf (fun b => decide (128 ≤ b)) l := by
  have e1 : wd l &&& 9259542123273814144 = 128 * wd (l.map fun b => b / 128) := by
    have := wd_op (· &&& ·) rfl and256 128 (by omega) l hb
    rw [h8, wd_rep] at this
    rw [show (9259542123273814144 : Nat) = 128 * 72340172838076673 from rfl]
    have this : wd l &&& 128 * 72340172838076673 = wd (l.map fun b => b &&& 128) := this
    rw [this, wd_mul]
    refine wd_congr fun b hb' => ?_
    have : ∀ b : Fin 256, b.val &&& 128 = 128 * (b.val / 128) := by decide +kernel
    exact this ⟨b, hb b hb'⟩
  rw [e1, Nat.mul_div_cancel_left _ (by omega)]
  have e2 : bitsOf (fun b => decide (128 ≤ b)) l = bitsOf (fun t => decide (t = 1)) (l.map fun b => b / 128) := by
    clear e1 h8
    induction l with
    | nil => rfl
    | cons b r ih =>
      have h1 := hb b (List.mem_cons_self ..)
      simp only [bitsOf, List.map_cons, decide_eq_true_eq]
      rw [ih (fun x hx => hb x (List.mem_cons_of_mem _ hx))]
      congr 1
      by_cases h : 128 ≤ b
      · rw [if_pos h, if_pos (by omega)]
      · rw [if_neg h, if_neg (by omega)]
  rw [e2]
  have h2 : ∀ t ∈ (l.map fun b => b / 128), t < 2 := by
    intro t ht
    obtain ⟨b, hb', rfl⟩ := List.mem_map.1 ht
    have := hb b hb'
    omega
  have h8' : (l.map fun b => b / 128).length = 8 := by simpa using h8
  generalize (l.map fun b => b / 128) = t at h2 h8'
  clear e1 e2
  match t, h8' with
  | [a, b, c, d, e, f, g, h], _ =>
    simp only [List.mem_cons, List.not_mem_nil, or_false, forall_eq_or_imp, forall_eq] at h2
    obtain ⟨ha, hb, hc, hd, he, hf, hg, hh⟩ := h2
    have H : ∀ x : Nat, x < 2 → (if decide (x = 1) = true then 1 else 0) = x := by
      intro x hx
      by_cases h : x = 1
      · simp [h]
      · simp [h]; omega
    simp only [bitsOf, H _ ha, H _ hb, H _ hc, H _ hd, H _ he, H _ hf, H _ hg, H _ hh]
    have d1 : ∀ x y : Nat, x < 2 → (x + 2 * y) / 2 = y := by intros; omega
    have d2 : ∀ x y : Nat, x < 2 → (x + 2 * y) % 2 = x := by intros; omega
    have d3 : ∀ x y k : Nat, x < 2 → y < k → x + 2 * y < 2 * k := by intros; omega
    have hl := d3 a _ 128 ha (d3 b _ 64 hb (d3 c _ 32 hc (d3 d _ 16 hd (d3 e _ 8 he (d3 f _ 4 hf (d3 g _ 2 hg (d3 h 0 1 hh (by omega))))))))
    have ht := gather_at _ hl
    simp only [d1 _ _ ha, d1 _ _ hb, d1 _ _ hc, d1 _ _ hd, d1 _ _ he, d1 _ _ hf, d1 _ _ hg, d1 _ _ hh, d2 _ _ ha, d2 _ _ hb, d2 _ _ hc, d2 _ _ hd, d2 _ _ he, d2 _ _ hf, d2 _ _ hg, d2 _ _ hh] at ht
    simpa [wd] using ht
theorem byte_tab : ∀ b : Fin 256, (b.val &&& 127) + 127 < 256 ∧ (((b.val &&& 127) + 127 ||| b.val) ||| 127) < 256 ∧ ((b.val &&& 127) + 127 ||| b.val) < 256 ∧ (((b.val &&& 127) + 127 ||| b.val) ||| 127) + (if b.val = 0 then 128 else 0) = 255 := by decide +kernel
/-- the bytes that are 0, by their highest bits -/
theorem zeros_eq (l : List Nat) (hb : Bt l) (h8 : l.length = 8) :
    ((((wd l &&& 9187201950435737471) + 9187201950435737471) ||| wd l) ||| 9187201950435737471) ≤ 18446744073709551615 ∧ (wd l &&& 9187201950435737471) + 9187201950435737471 < 18446744073709551616 ∧
    18446744073709551615 - ((((wd l &&& 9187201950435737471) + 9187201950435737471) ||| wd l) ||| 9187201950435737471) = wd (l.map fun b => if b = 0 then 128 else 0) := by
  have a1 : wd l &&& 9187201950435737471 = wd (l.map fun b => b &&& 127) := by
    have := wd_op (· &&& ·) rfl and256 127 (by omega) l hb
    rw [h8, wd_rep] at this
    exact this
  have a2 : wd (l.map fun b => b &&& 127) + 9187201950435737471 = wd (l.map fun b => (b &&& 127) + 127) := by
    rw [show (9187201950435737471 : Nat) = wd (l.map fun _ => 127) from (wd_mapc h8 127).symm, wd_add]
  have hlt : ∀ b ∈ l, (b &&& 127) + 127 < 256 ∧ (((b &&& 127) + 127 ||| b) ||| 127) < 256 ∧ ((b &&& 127) + 127 ||| b) < 256 ∧ (((b &&& 127) + 127 ||| b) ||| 127) + (if b = 0 then 128 else 0) = 255 := fun b hb' => byte_tab ⟨b, hb b hb'⟩
  have a3 : wd (l.map fun b => (b &&& 127) + 127) ||| wd l = wd (l.map fun b => (b &&& 127) + 127 ||| b) := by
    have := wd_op2 (· ||| ·) rfl or256 (fun b => (b &&& 127) + 127) (fun b => b) l (fun b hb' => (hlt b hb').1) (fun b h => hb b h)
    rw [map_id'] at this
    exact this
  have a4 : wd (l.map fun b => (b &&& 127) + 127 ||| b) ||| 9187201950435737471 = wd (l.map fun b => ((b &&& 127) + 127 ||| b) ||| 127) := by
    rw [show (9187201950435737471 : Nat) = wd (l.map fun _ => 127) from (wd_mapc h8 127).symm]
    exact wd_op2 (· ||| ·) rfl or256 (fun b => (b &&& 127) + 127 ||| b) (fun _ => 127) l (fun b hb' => (hlt b hb').2.2.1) (fun _ _ => by omega)
  have a5 : wd (l.map fun b => ((b &&& 127) + 127 ||| b) ||| 127) + wd (l.map fun b => if b = 0 then 128 else 0) = 18446744073709551615 := by
    rw [wd_add]
    have e : wd (l.map fun b => (((b &&& 127) + 127 ||| b) ||| 127) + (if b = 0 then 128 else 0)) = wd (l.map fun _ => 255) := wd_congr fun b hb' => (hlt b hb').2.2.2
    rw [e, wd_mapc h8]
  have a6 : wd (l.map fun b => (b &&& 127) + 127) < 18446744073709551616 := wd_lt8 (fun x hx => by
    obtain ⟨b, hb', rfl⟩ := List.mem_map.1 hx
    exact (hlt b hb').1) (by simpa using h8)
  rw [a1, a2, a3, a4]
  exact ⟨by omega, a6, by omega⟩
theorem match_xor (l : List Nat) (hb : Bt l) (h8 : l.length = 8) (h : Nat) (hh : h < 256) : wd l ^^^ (72340172838076673 * h) = wd (l.map fun b => b ^^^ h) := by
  have := wd_op (· ^^^ ·) rfl xor256 h hh l hb
  rw [h8, wd_rep, Nat.mul_comm] at this
  exact this
/-- the slots of a byte -/
theorem match_eq (l : List Nat) (hb : Bt l) (h8 : l.length = 8) (h : Nat) (hh : h < 256) : bitsOf (fun b => decide (128 ≤ b)) ((l.map fun b => b ^^^ h).map fun b => if b = 0 then 128 else 0) = bitsOf (fun b => b == h) l := by
  clear h8
  induction l with
  | nil => rfl
  | cons b r ih =>
    simp only [bitsOf, List.map_cons]
    rw [ih (fun x hx => hb x (List.mem_cons_of_mem _ hx))]
    congr 1
    by_cases e : b = h
    · subst e; simp
    · have : b ^^^ h ≠ 0 := fun e0 => e (Nat.eq_of_testBit_eq fun j => by
        have := congrArg (fun x => Nat.testBit x j) e0
        simpa using this)
      simp [this, e]
/-- the elements of a set, rising -/
def els (s : Nat) : List Nat := (List.range 8).filter fun i => s.testBit i
theorem els_zero : els 0 = [] := by decide
theorem els_next : ∀ s : Fin 256, s.val ≠ 0 → ∃ i, els s.val = i :: els (s.val &&& (s.val - 1)) ∧ i < 8 := by
  intro s hs
  have h : ∀ s : Fin 256, s.val ≠ 0 → (els s.val).head? = some ((els s.val).headD 0) ∧ (els s.val).tail = els (s.val &&& (s.val - 1)) ∧ (els s.val).headD 0 < 8 := by decide +kernel
  obtain ⟨h1, h2, h3⟩ := h s hs
  refine ⟨(els s.val).headD 0, ?_, h3⟩
  cases he : els s.val with
  | nil => rw [he] at h1; simp at h1
  | cons i r => rw [← h2, he]; rfl
theorem els_bits (p : Nat → Bool) (l : List Nat) : els (bitsOf p l) = (List.range 8).filter fun i => (l[i]?.map p).getD false := by
  unfold els
  congr 1
  funext i
  rw [bits_test]
theorem wd_get : ∀ (l : List Nat) (i : Nat), Bt l → wd l / 256 ^ i % 256 = l.getD i 0
  | [], i, _ => by simp [wd]
  | b :: r, 0, h => by
    have := h b (List.mem_cons_self ..)
    simp [wd]; omega
  | b :: r, i + 1, h => by
    have h1 := wd_get r i (fun x hx => h x (List.mem_cons_of_mem _ hx))
    have := h b (List.mem_cons_self ..)
    rw [List.getD_cons_succ, ← h1, wd, Nat.pow_succ, Nat.mul_comm (256 ^ i), ← Nat.div_div_eq_div_mul, show (b + 256 * wd r) / 256 = wd r from by omega]
theorem wd_set : ∀ (l : List Nat) (i c : Nat), i < l.length → wd (l.set i c) + l.getD i 0 * 256 ^ i = wd l + c * 256 ^ i
  | b :: r, 0, c, _ => by simp [wd]; omega
  | b :: r, i + 1, c, h => by
    have := wd_set r i c (by simpa using h)
    simp only [List.set_cons_succ, wd, List.getD_cons_succ, Nat.pow_succ]
    have e1 : r.getD i 0 * (256 ^ i * 256) = 256 * (r.getD i 0 * 256 ^ i) := by rw [← Nat.mul_assoc, Nat.mul_comm 256]
    have e2 : c * (256 ^ i * 256) = 256 * (c * 256 ^ i) := by rw [← Nat.mul_assoc, Nat.mul_comm 256]
    rw [e1, e2]
    omega
end Go.Proofs.YtodledidabdkaaaGreatDoor.V

namespace Go.Proofs.YtodledidabdkaaaGreatDoor.V
set_option linter.unusedVariables false
set_option linter.unusedSimpArgs false
/-- the group at a step -/
def seqAt (h g : Nat) : Nat → Nat
  | 0 => h % g
  | i + 1 => (seqAt h g i + (i + 1)) % g
def seqP (h g : Nat) : List Nat := (List.range g).map (seqAt h g)
def tri : Nat → Nat
  | 0 => 0
  | i + 1 => tri i + (i + 1)
theorem two_tri : ∀ i, 2 * tri i = i * (i + 1)
  | 0 => rfl
  | i + 1 => by
    have := two_tri i
    simp only [tri]
    rw [Nat.mul_add, this, ← Nat.add_mul, Nat.mul_comm]
theorem tri_div (i : Nat) : tri i = i * (i + 1) / 2 := by
  have := two_tri i
  omega
theorem seqAt_tri (h g : Nat) : ∀ i, seqAt h g i = (h + tri i) % g
  | 0 => by simp [seqAt, tri]
  | i + 1 => by
    rw [seqAt, seqAt_tri h g i, tri, Nat.mod_add_mod, Nat.add_assoc]
theorem seqAt_lt (h g i : Nat) (hg : 0 < g) : seqAt h g i < g := by
  rw [seqAt_tri]; exact Nat.mod_lt _ hg
theorem len_le : ∀ {l m : List Nat}, l.Nodup → (∀ x ∈ l, x ∈ m) → l.length ≤ m.length
  | [], m, _, _ => Nat.zero_le _
  | a :: r, m, h, hs => by
    have ha := hs a (List.mem_cons_self ..)
    have h1 := len_le (l := r) (m := m.erase a) (List.nodup_cons.1 h).2 (fun x hx => by
      have hne : x ≠ a := fun e => (List.nodup_cons.1 h).1 (e ▸ hx)
      exact (List.mem_erase_of_ne hne).2 (hs x (List.mem_cons_of_mem _ hx)))
    have h2 := List.length_erase_of_mem ha
    have h3 := List.length_pos_of_mem ha
    simp only [List.length_cons]
    omega
theorem pigeon {n : Nat} {l : List Nat} (h : l.Nodup) (hl : l.length = n) (hlt : ∀ x ∈ l, x < n) : ∀ j, j < n → j ∈ l := by
  intro j hj
  apply Classical.byContradiction
  intro hn
  have h1 := len_le (l := j :: l) (m := List.range n) (List.nodup_cons.2 ⟨hn, h⟩) (fun x hx => by
    rcases List.mem_cons.1 hx with rfl | hx
    · exact List.mem_range.2 hj
    · exact List.mem_range.2 (hlt x hx))
  simp only [List.length_cons, List.length_range] at h1
  omega
theorem odd_coprime (k a : Nat) (ha : a % 2 = 1) : Nat.Coprime (2 ^ k) a := by
  apply Nat.Coprime.pow_left
  rw [Nat.coprime_comm]
  unfold Nat.Coprime
  have h1 := Nat.gcd_dvd_right a 2
  have h2 := Nat.gcd_dvd_left a 2
  have h3 := Nat.le_of_dvd (by omega) h1
  have h4 : a.gcd 2 ≠ 0 := fun e => by rw [e] at h1; omega
  have h5 : a.gcd 2 ≠ 2 := fun e => by rw [e] at h2; omega
  omega
theorem tri_inj (k h i j : Nat) (hij : i < j) (hj : j < 2 ^ k) (e : (h + tri i) % 2 ^ k = (h + tri j) % 2 ^ k) : False := by
  have ti := two_tri i
  have tj := two_tri j
  have hle : tri i ≤ tri j := by
    have : i * (i + 1) ≤ j * (j + 1) := Nat.mul_le_mul (by omega) (by omega)
    omega
  have hd : 2 ^ k ∣ tri j - tri i := by
    have := Nat.dvd_of_mod_eq_zero (Nat.sub_mod_eq_zero_of_mod_eq e.symm)
    rwa [Nat.add_sub_add_left] at this
  obtain ⟨m, hm⟩ := hd
  obtain ⟨d, rfl⟩ : ∃ d, j = i + d := ⟨j - i, by omega⟩
  have hprod : d * (2 * i + d + 1) = 2 ^ (k + 1) * m := by
    have h1 : (i + d) * (i + d + 1) = i * (i + 1) + d * (2 * i + d + 1) := by
      rw [show 2 * i = i + i from by omega]
      simp only [Nat.add_mul, Nat.mul_add, Nat.mul_one]
      rw [Nat.mul_comm d i]
      omega
    rw [Nat.pow_succ, Nat.mul_assoc, Nat.mul_left_comm, ← hm]
    omega
  have hdv : 2 ^ (k + 1) ∣ d * (2 * i + d + 1) := ⟨m, hprod⟩
  have h2 : 2 ^ (k + 1) = 2 * 2 ^ k := by rw [Nat.pow_succ]; omega
  by_cases hp : d % 2 = 1
  · have h3 := (odd_coprime (k + 1) d hp).dvd_of_dvd_mul_left hdv
    have := Nat.le_of_dvd (by omega) h3
    omega
  · have h3 := (odd_coprime (k + 1) (2 * i + d + 1) (by omega)).dvd_of_dvd_mul_right hdv
    have := Nat.le_of_dvd (by omega) h3
    omega
theorem seqP_len (h g : Nat) : (seqP h g).length = g := by simp [seqP]
/-- every group is met -/
theorem seq_all (h k j : Nat) (hj : j < 2 ^ k) : ∃ t, t < 2 ^ k ∧ seqAt h (2 ^ k) t = j := by
  have hp : 0 < 2 ^ k := Nat.pow_pos (by omega)
  have hn : (seqP h (2 ^ k)).Nodup := by
    unfold seqP
    rw [List.nodup_iff_pairwise_ne, List.pairwise_map]
    refine List.pairwise_lt_range.imp_of_mem ?_
    intro a b ha hb hab e
    rw [seqAt_tri, seqAt_tri] at e
    exact tri_inj k h a b hab (List.mem_range.1 hb) e
  have := pigeon hn (seqP_len _ _) (fun x hx => by
    obtain ⟨t, _, rfl⟩ := List.mem_map.1 hx
    exact seqAt_lt _ _ _ hp) j hj
  obtain ⟨t, ht, e⟩ := List.mem_map.1 this
  exact ⟨t, List.mem_range.1 ht, e⟩
theorem pow_good : ∀ k : Fin 11, 1 ≤ 2 ^ k.val ∧ 2 ^ k.val ≤ 1024 ∧ 2 ^ k.val &&& (2 ^ k.val - 1) = 0 := by decide +kernel
theorem seqP_get {h g i : Nat} (hi : i < g) : (seqP h g)[i]? = some (seqAt h g i) := by
  unfold seqP
  simp [hi]
/-- how many groups so many keys need -/
def needP (n : Nat) : Nat := if n ≤ 7 then 1 else if n ≤ 14 then 2 else if n ≤ 28 then 4 else if n ≤ 56 then 8 else if n ≤ 112 then 16 else if n ≤ 224 then 32 else if n ≤ 448 then 64 else if n ≤ 896 then 128 else if n ≤ 1792 then 256 else if n ≤ 3584 then 512 else if n ≤ 7168 then 1024 else 0
end Go.Proofs.YtodledidabdkaaaGreatDoor.V

namespace Go.Proofs.YtodledidabdkaaaGreatDoor.V
set_option linter.unusedVariables false
set_option linter.unusedSimpArgs false
abbrev Tx := ByteArray
abbrev Slot := Tx × Tx
structure Mp where
  ctrl : List Nat
  slots : List Slot
def Mp.g (M : Mp) : Nat := M.ctrl.length / 8
def Mp.cnt (M : Mp) : Nat := M.ctrl.countP fun b => decide (b < 128)
def Mp.tmb (M : Mp) : Nat := M.ctrl.countP fun b => b == 254
def grp (c : List Nat) (g : Nat) : List Nat := (c.drop (8 * g)).take 8
def zslot : Slot := (ByteArray.empty, ByteArray.empty)
def hitAt (M : Mp) (what : Nat) (key : Tx) (g : Nat) : Option Nat :=
  (els (bitsOf (fun b => b == what) (grp M.ctrl g))).find? fun i => decide ((M.slots.getD (8 * g + i) zslot).1 = key)
def findL (M : Mp) (what : Nat) (key : Tx) : List Nat → Option Nat
  | [] => none
  | g :: r => match hitAt M what key g with
    | some i => some (8 * g + i)
    | none => if bitsOf (fun b => b == 128) (grp M.ctrl g) = 0 then findL M what key r else none
def findP (H : Tx → Nat) (M : Mp) (key : Tx) : Option Nat := findL M (H key % 128) key (seqP (H key / 128) M.g)
def free (c : List Nat) (g : Nat) : Nat := bitsOf (fun b => b == 128 || b == 254) (grp c g)
def layL (c : List Nat) : List Nat → Option Nat
  | [] => none
  | g :: r => match els (free c g) with
    | [] => layL c r
    | i :: _ => some (8 * g + i)
def layP (H : Tx → Nat) (M : Mp) (s : Slot) : Mp := match layL M.ctrl (seqP (H s.1 / 128) M.g) with
  | none => M
  | some i => ⟨M.ctrl.set i (H s.1 % 128), M.slots.set i s⟩
def fullP (M : Mp) : List Slot := (List.range M.ctrl.length).filterMap fun i => if M.ctrl.getD i 128 < 128 then M.slots[i]? else none
def madeP (g : Nat) : Mp := ⟨List.replicate (8 * g) 128, List.replicate (8 * g) zslot⟩
def newG (M : Mp) : Nat := if M.tmb = 0 ∨ 7 * M.g < 2 * M.cnt then M.g * 2 else M.g
def rehashP (H : Tx → Nat) (M : Mp) : Mp := (fullP M).foldl (layP H) (madeP (newG M))
def setV (M : Mp) (i : Nat) (v : Tx) : Mp := ⟨M.ctrl, M.slots.set i ((M.slots.getD i zslot).1, v)⟩
def putP (H : Tx → Nat) (M : Mp) (k v : Tx) : Mp × Bool × Nat := match findP H M k with
  | some i => (setV M i v, true, 0)
  | none => if 2000 ≤ M.cnt then (M, false, 7) else (layP H (if 7 * M.g ≤ M.cnt + M.tmb then rehashP H M else M) (k, v), false, 0)
def delC (M : Mp) (i : Nat) : Nat := if bitsOf (fun b => b == 128) (grp M.ctrl (i / 8)) = 0 then 254 else 128
def delP (H : Tx → Nat) (M : Mp) (k : Tx) : Mp × Bool := match findP H M k with
  | none => (M, false)
  | some i => (⟨M.ctrl.set i (delC M i), M.slots.set i zslot⟩, true)
def getP' (H : Tx → Nat) (M : Mp) (k : Tx) : Option Tx := (findP H M k).map fun i => (M.slots.getD i zslot).2

/-- slot i has a key -/
def Fu (M : Mp) (i : Nat) (k v : Tx) : Prop := ∃ c, M.ctrl[i]? = some c ∧ c < 128 ∧ M.slots[i]? = some (k, v)
/-- the pairs -/
def Has (M : Mp) (k v : Tx) : Prop := ∃ i, Fu M i k v
structure Inv (H : Tx → Nat) (M : Mp) : Prop where
  len : ∃ k, k ≤ 10 ∧ M.ctrl.length = 8 * 2 ^ k
  slen : M.slots.length = M.ctrl.length
  bytes : ∀ b ∈ M.ctrl, b < 128 ∨ b = 128 ∨ b = 254
  room : M.cnt + M.tmb ≤ 7 * M.g
  most : M.cnt ≤ 2000
  probe : ∀ i k v, Fu M i k v → M.ctrl[i]? = some (H k % 128) ∧ ∃ t, t < M.g ∧ seqAt (H k / 128) M.g t = i / 8 ∧ ∀ s, s < t → 128 ∉ grp M.ctrl (seqAt (H k / 128) M.g s)
  uniq : ∀ i j k v v', Fu M i k v → Fu M j k v' → i = j
theorem grp_get {c : List Nat} {g i : Nat} (hi : i < 8) : (grp c g)[i]? = c[8 * g + i]? := by
  unfold grp
  rw [List.getElem?_take, if_pos hi, List.getElem?_drop]
theorem grp_len {c : List Nat} {g n : Nat} (h : c.length = 8 * n) (hg : g < n) : (grp c g).length = 8 := by
  unfold grp
  rw [List.length_take, List.length_drop]; omega
theorem mem_els {p : Nat → Bool} {l : List Nat} {i : Nat} : i ∈ els (bitsOf p l) ↔ i < 8 ∧ ∃ b, l[i]? = some b ∧ p b = true := by
  rw [els_bits, List.mem_filter, List.mem_range]
  refine and_congr Iff.rfl ?_
  cases l[i]? <;> simp
theorem bits_zero {p : Nat → Bool} {l : List Nat} (h8 : l.length = 8) : bitsOf p l = 0 ↔ ∀ b ∈ l, p b = false := by
  constructor
  · intro h b hb
    obtain ⟨i, hi, e⟩ := List.mem_iff_getElem.1 hb
    have := bits_test p l i
    rw [h, List.getElem?_eq_getElem hi, e] at this
    simpa using this.symm
  · intro h
    apply Nat.eq_of_testBit_eq
    intro j
    rw [bits_test, Nat.zero_testBit]
    cases hj : l[j]? with
    | none => rfl
    | some b => simpa using h b (List.mem_of_getElem? hj)
theorem mem_grp {c : List Nat} {g b : Nat} : b ∈ grp c g ↔ ∃ i, i < 8 ∧ c[8 * g + i]? = some b := by
  rw [List.mem_iff_getElem?]
  constructor
  · rintro ⟨i, h⟩
    have hi : i < 8 := by
      have := (List.getElem?_eq_some_iff.1 h).1
      unfold grp at this
      rw [List.length_take] at this; omega
    exact ⟨i, hi, by rw [← grp_get hi]; exact h⟩
  · rintro ⟨i, hi, h⟩
    exact ⟨i, by rw [grp_get hi]; exact h⟩
theorem Inv.g8 {H : Tx → Nat} {M : Mp} (h : Inv H M) : M.ctrl.length = 8 * M.g := by
  obtain ⟨k, _, e⟩ := h.len
  unfold Mp.g
  omega
theorem Inv.pow {H : Tx → Nat} {M : Mp} (h : Inv H M) : ∃ k, k ≤ 10 ∧ M.g = 2 ^ k := by
  obtain ⟨k, hk, e⟩ := h.len
  exact ⟨k, hk, by unfold Mp.g; omega⟩
theorem Fu.lt {M : Mp} {i : Nat} {k v : Tx} (h : Fu M i k v) : i < M.ctrl.length := by
  obtain ⟨c, h, _⟩ := h
  exact (List.getElem?_eq_some_iff.1 h).1
theorem getD_of {α : Type} {l : List α} {i : Nat} {x d : α} (h : l[i]? = some x) : l.getD i d = x := by
  rw [List.getD_eq_getElem?_getD, h]; rfl
theorem hit_some {M : Mp} {what g j : Nat} {key : Tx} (hs : M.slots.length = M.ctrl.length) (hw : what < 128) (h : hitAt M what key g = some j) : j < 8 ∧ ∃ v, Fu M (8 * g + j) key v := by
  unfold hitAt at h
  have h1 := List.mem_of_find?_eq_some h
  have h2 := List.find?_some h
  obtain ⟨hj, b, hb, hp⟩ := mem_els.1 h1
  rw [grp_get hj] at hb
  have hlt := (List.getElem?_eq_some_iff.1 hb).1
  obtain ⟨s, hsl⟩ : ∃ s, M.slots[8 * g + j]? = some s := ⟨_, List.getElem?_eq_getElem (by omega)⟩
  simp only [decide_eq_true_eq, getD_of hsl, beq_iff_eq] at h2 hp
  exact ⟨hj, s.2, b, hb, by omega, by rw [hsl, ← h2]⟩
theorem hit_none {M : Mp} {what g : Nat} {key : Tx} (h : hitAt M what key g = none) {i : Nat} {v : Tx} (hf : Fu M i key v) (hc : M.ctrl[i]? = some what) : i / 8 ≠ g := by
  intro e
  unfold hitAt at h
  rw [List.find?_eq_none] at h
  obtain ⟨c, _, _, hsl⟩ := hf
  have e2 : 8 * g + i % 8 = i := by omega
  have := h (i % 8) (mem_els.2 ⟨by omega, what, by rw [grp_get (by omega), e2]; exact hc, by simp⟩)
  rw [e2, getD_of hsl] at this
  simp at this
theorem findL_some {H : Tx → Nat} {M : Mp} (hI : Inv H M) {key v : Tx} {i : Nat} (hf : Fu M i key v) : ∀ (L : List Nat) (t : Nat), L[t]? = some (i / 8) → (∀ s, s < t → ∀ q, L[s]? = some q → q < M.g ∧ 128 ∉ grp M.ctrl q) → findL M (H key % 128) key L = some i
  | [], t, h, _ => by simp at h
  | g :: r, t, h, hs => by
    rw [findL]
    cases hh : hitAt M (H key % 128) key g with
    | some j =>
      obtain ⟨_, v', hf'⟩ := hit_some hI.slen (Nat.mod_lt _ (by omega)) hh
      rw [hI.uniq _ _ _ _ _ hf hf']
    | none =>
      cases t with
      | zero =>
        simp only [List.getElem?_cons_zero, Option.some.injEq] at h
        exact absurd h.symm (hit_none hh hf (hI.probe _ _ _ hf).1)
      | succ t =>
        obtain ⟨hq, h0⟩ := hs 0 (by omega) g rfl
        have hz : bitsOf (fun b => b == 128) (grp M.ctrl g) = 0 := (bits_zero (grp_len hI.g8 hq)).2 fun b hb => by
          simp only [beq_eq_false_iff_ne]
          intro e; exact h0 (e ▸ hb)
        simp only [hz, if_true]
        exact findL_some hI hf r t (by simpa using h) fun s hs' q hq' => hs (s + 1) (by omega) q (by simpa using hq')
theorem findL_mem {M : Mp} (hs : M.slots.length = M.ctrl.length) {what i : Nat} {key : Tx} (hw : what < 128) : ∀ (L : List Nat), findL M what key L = some i → ∃ v, Fu M i key v
  | [], h => by simp [findL] at h
  | g :: r, h => by
    rw [findL] at h
    cases hh : hitAt M what key g with
    | some j =>
      rw [hh] at h
      obtain ⟨_, v, hf⟩ := hit_some hs hw hh
      simp only [Option.some.injEq] at h
      exact ⟨v, h ▸ hf⟩
    | none =>
      rw [hh] at h
      simp only at h
      split at h
      · exact findL_mem hs hw r h
      · cases h
theorem find_some {H : Tx → Nat} {M : Mp} (hI : Inv H M) {key v : Tx} {i : Nat} (hf : Fu M i key v) : findP H M key = some i := by
  obtain ⟨_, t, ht, e, hs⟩ := hI.probe _ _ _ hf
  obtain ⟨k, _, hp⟩ := hI.pow
  have hp0 : 0 < M.g := by rw [hp]; exact Nat.pow_pos (by omega)
  refine findL_some hI hf _ t (by rw [seqP_get ht, e]) fun s hs' q hq => ?_
  rw [seqP_get (by omega)] at hq
  simp only [Option.some.injEq] at hq
  subst hq
  exact ⟨seqAt_lt _ _ _ hp0, hs s hs'⟩
theorem find_mem {H : Tx → Nat} {M : Mp} (hI : Inv H M) {key : Tx} {i : Nat} (h : findP H M key = some i) : ∃ v, Fu M i key v := findL_mem hI.slen (Nat.mod_lt _ (by omega)) _ h
theorem find_none {H : Tx → Nat} {M : Mp} (hI : Inv H M) {key : Tx} : findP H M key = none ↔ ∀ v, ¬ Has M key v := by
  constructor
  · rintro h v ⟨i, hf⟩
    rw [find_some hI hf] at h
    cases h
  · intro h
    cases hh : findP H M key with
    | none => rfl
    | some i =>
      obtain ⟨v, hf⟩ := find_mem hI hh
      exact absurd ⟨i, hf⟩ (h v)
theorem get_some {H : Tx → Nat} {M : Mp} (hI : Inv H M) {key v : Tx} : getP' H M key = some v ↔ Has M key v := by
  unfold getP'
  constructor
  · intro h
    cases hh : findP H M key with
    | none => rw [hh] at h; cases h
    | some i =>
      obtain ⟨v', hf⟩ := find_mem hI hh
      rw [hh] at h
      obtain ⟨c, h1, h2, h3⟩ := hf
      simp only [Option.map_some, getD_of h3, Option.some.injEq] at h
      subst h
      exact ⟨i, c, h1, h2, h3⟩
  · rintro ⟨i, hf⟩
    rw [find_some hI hf]
    obtain ⟨c, h1, h2, h3⟩ := hf
    rw [Option.map_some, getD_of h3]
theorem Has.one {H : Tx → Nat} {M : Mp} (hI : Inv H M) {k v v' : Tx} (h : Has M k v) (h' : Has M k v') : v = v' := by
  have h1 := (get_some hI).2 h
  have h2 := (get_some hI).2 h'
  rw [h1] at h2
  exact Option.some.inj h2
/-! ### counting -/
theorem countP_set (p : Nat → Bool) : ∀ (l : List Nat) (i c x : Nat), l[i]? = some c → (l.set i x).countP p + (if p c then 1 else 0) = l.countP p + (if p x then 1 else 0)
  | [], i, c, x, h => by simp at h
  | b :: r, 0, c, x, h => by
    simp only [List.getElem?_cons_zero, Option.some.injEq] at h
    subst h
    simp only [List.set_cons_zero, List.countP_cons]
    omega
  | b :: r, i + 1, c, x, h => by
    have := countP_set p r i c x (by simpa using h)
    simp only [List.set_cons_succ, List.countP_cons]
    omega
theorem count_all : ∀ (l : List Nat), (∀ b ∈ l, b < 128 ∨ b = 128 ∨ b = 254) → l.countP (fun b => decide (b < 128)) + l.countP (fun b => b == 254) + l.countP (fun b => b == 128) = l.length
  | [], _ => rfl
  | b :: r, h => by
    have h1 := count_all r (fun x hx => h x (List.mem_cons_of_mem _ hx))
    simp only [List.countP_cons, List.length_cons]
    rcases h b (List.mem_cons_self ..) with h | h | h
    · have e1 : (b == 254) = false := by simp; omega
      have e2 : (b == 128) = false := by simp; omega
      simp [h, e1, e2]; omega
    · subst h; simp; omega
    · subst h; simp; omega
/-! ### laying -/
theorem layL_spec {M : Mp} (hlen : M.ctrl.length = 8 * M.g) : ∀ (L : List Nat), (∃ q ∈ L, q < M.g ∧ 128 ∈ grp M.ctrl q) → (∀ q ∈ L, q < M.g) →
    ∃ (t q j b : Nat), L[t]? = some q ∧ j < 8 ∧ layL M.ctrl L = some (8 * q + j) ∧ M.ctrl[8 * q + j]? = some b ∧ (b = 128 ∨ b = 254) ∧ ∀ s, s < t → ∀ r, L[s]? = some r → 128 ∉ grp M.ctrl r
  | [], h, _ => by obtain ⟨q, h, _⟩ := h; cases h
  | g :: r, h, hL => by
    have h8 := grp_len hlen (hL g (List.mem_cons_self ..))
    rw [layL]
    cases he : els (free M.ctrl g) with
    | cons i r' =>
      have hi : i ∈ els (free M.ctrl g) := by rw [he]; exact List.mem_cons_self ..
      obtain ⟨h1, b, h2, h3⟩ := mem_els.1 hi
      rw [grp_get h1] at h2
      refine ⟨0, g, i, b, rfl, h1, rfl, h2, by simpa using h3, fun s hs => by omega⟩
    | nil =>
      have hno : 128 ∉ grp M.ctrl g := by
        intro hm
        obtain ⟨i, hi, e⟩ := mem_grp.1 hm
        have : i ∈ els (free M.ctrl g) := mem_els.2 ⟨hi, 128, by rw [grp_get hi]; exact e, rfl⟩
        rw [he] at this; cases this
      obtain ⟨t, q, j, b, e1, e2, e3, e4, e5, e6⟩ := layL_spec hlen r (by
        obtain ⟨q, hq, h1, h2⟩ := h
        rcases List.mem_cons.1 hq with rfl | hq
        · exact absurd h2 hno
        · exact ⟨q, hq, h1, h2⟩) (fun q hq => hL q (List.mem_cons_of_mem _ hq))
      refine ⟨t + 1, q, j, b, by simpa using e1, e2, e3, e4, e5, fun s hs r' hr' => ?_⟩
      cases s with
      | zero =>
        simp only [List.getElem?_cons_zero, Option.some.injEq] at hr'
        subst hr'; exact hno
      | succ s => exact e6 s (by omega) r' (by simpa using hr')
theorem Inv.some128 {H : Tx → Nat} {M : Mp} (hI : Inv H M) : ∃ q, q < M.g ∧ 128 ∈ grp M.ctrl q := by
  have h1 := count_all _ hI.bytes
  have h2 := hI.room
  have h3 := hI.g8
  obtain ⟨k, _, hp⟩ := hI.pow
  have hp0 : 0 < M.g := by rw [hp]; exact Nat.pow_pos (by omega)
  have hpos : 0 < M.ctrl.countP (fun b => b == 128) := by unfold Mp.cnt Mp.tmb at h2; omega
  obtain ⟨b, hb, e⟩ := List.countP_pos_iff.1 hpos
  have e : b = 128 := by simpa using e
  subst e
  obtain ⟨i, hi⟩ := List.mem_iff_getElem?.1 hb
  have hlt := (List.getElem?_eq_some_iff.1 hi).1
  exact ⟨i / 8, by omega, mem_grp.2 ⟨i % 8, by omega, by rw [show 8 * (i / 8) + i % 8 = i from by omega]; exact hi⟩⟩
theorem seqP_mem {h g q : Nat} (hg : 0 < g) (hq : q ∈ seqP h g) : q < g := by
  obtain ⟨t, _, rfl⟩ := List.mem_map.1 hq
  exact seqAt_lt _ _ _ hg
theorem lay_at {H : Tx → Nat} {M : Mp} (hI : Inv H M) (s : Slot) : ∃ (t q j b : Nat), t < M.g ∧ seqAt (H s.1 / 128) M.g t = q ∧ q < M.g ∧ j < 8 ∧ layL M.ctrl (seqP (H s.1 / 128) M.g) = some (8 * q + j) ∧ M.ctrl[8 * q + j]? = some b ∧ (b = 128 ∨ b = 254) ∧ ∀ u, u < t → 128 ∉ grp M.ctrl (seqAt (H s.1 / 128) M.g u) := by
  obtain ⟨k, _, hp⟩ := hI.pow
  have hp0 : 0 < M.g := by rw [hp]; exact Nat.pow_pos (by omega)
  obtain ⟨q0, h1, h2⟩ := hI.some128
  obtain ⟨t0, ht0, e0⟩ := seq_all (H s.1 / 128) k q0 (by omega)
  rw [← hp] at ht0 e0
  obtain ⟨t, q, j, b, e1, e2, e3, e4, e5, e6⟩ := layL_spec hI.g8 (seqP (H s.1 / 128) M.g) ⟨q0, List.mem_map.2 ⟨t0, List.mem_range.2 ht0, e0⟩, h1, h2⟩ (fun q hq => seqP_mem hp0 hq)
  have ht : t < M.g := by
    have := (List.getElem?_eq_some_iff.1 e1).1
    rwa [seqP_len] at this
  rw [seqP_get ht] at e1
  simp only [Option.some.injEq] at e1
  refine ⟨t, q, j, b, ht, e1, e1 ▸ seqAt_lt _ _ _ hp0, e2, e3, e4, e5, fun u hu => e6 u hu _ (seqP_get (by omega))⟩
theorem grp_set_ne {c : List Nat} {i x g b : Nat} (h : b ∈ grp (c.set i x) g) (hx : x ≠ b) : b ∈ grp c g := by
  obtain ⟨j, hj, e⟩ := mem_grp.1 h
  rw [List.getElem?_set] at e
  split at e
  · split at e
    · exact absurd (Option.some.inj e) hx
    · cases e
  · exact mem_grp.2 ⟨j, hj, e⟩
theorem grp_set_other {c : List Nat} {i x g b : Nat} (h : b ∈ grp (c.set i x) g) (hg : i / 8 ≠ g) : b ∈ grp c g := by
  obtain ⟨j, hj, e⟩ := mem_grp.1 h
  rw [List.getElem?_set_ne (by omega)] at e
  exact mem_grp.2 ⟨j, hj, e⟩
theorem fu_set {M : Mp} {i c : Nat} {s : Slot} (hs : M.slots.length = M.ctrl.length) (hi : i < M.ctrl.length) {j : Nat} {k v : Tx} :
    Fu ⟨M.ctrl.set i c, M.slots.set i s⟩ j k v ↔ (j = i ∧ c < 128 ∧ s = (k, v)) ∨ (j ≠ i ∧ Fu M j k v) := by
  unfold Fu
  by_cases e : j = i
  · subst e
    simp only [List.getElem?_set_self (show j < M.ctrl.length from hi), List.getElem?_set_self (show j < M.slots.length by omega), Option.some.injEq]
    constructor
    · rintro ⟨c', rfl, h2, h3⟩
      exact .inl ⟨trivial, h2, h3⟩
    · rintro (⟨_, h2, h3⟩ | ⟨h, _⟩)
      · exact ⟨c, rfl, h2, h3⟩
      · exact absurd rfl h
  · simp only [List.getElem?_set_ne (Ne.symm e), e, false_and, false_or, ne_eq, not_false_eq_true, true_and]
theorem set_g (M : Mp) (i c : Nat) (s : List Slot) : Mp.g ⟨M.ctrl.set i c, s⟩ = M.g := by simp [Mp.g]
/-- a key that is not there goes in -/
theorem lay_inv {H : Tx → Nat} {M : Mp} (hI : Inv H M) {k v : Tx} (hk : ∀ v', ¬ Has M k v') (hr : M.cnt + M.tmb < 7 * M.g) (hm : M.cnt < 2000) :
    Inv H (layP H M (k, v)) ∧ (layP H M (k, v)).g = M.g ∧ (layP H M (k, v)).cnt = M.cnt + 1 ∧ (layP H M (k, v)).tmb ≤ M.tmb ∧ ∀ k' v', Has (layP H M (k, v)) k' v' ↔ (k' = k ∧ v' = v) ∨ Has M k' v' := by
  obtain ⟨t, q, j, b, ht, e1, hq, hj, e3, e4, e5, e6⟩ := lay_at hI (k, v)
  have hlt := (List.getElem?_eq_some_iff.1 e4).1
  have hw : H k % 128 < 128 := Nat.mod_lt _ (by omega)
  have hdef : layP H M (k, v) = ⟨M.ctrl.set (8 * q + j) (H k % 128), M.slots.set (8 * q + j) (k, v)⟩ := by
    unfold layP
    simp only [e3]
  rw [hdef]
  have hnf : ∀ k' v', ¬ Fu M (8 * q + j) k' v' := by
    rintro k' v' ⟨c, h1, h2, _⟩
    rw [e4] at h1
    have := Option.some.inj h1
    omega
  have hfu := fun (j' : Nat) (k' v' : Tx) => @fu_set M (8 * q + j) (H k % 128) (k, v) hI.slen hlt j' k' v'
  have hc1 := countP_set (fun b => decide (b < 128)) M.ctrl (8 * q + j) b (H k % 128) e4
  have hc2 := countP_set (fun b => b == 254) M.ctrl (8 * q + j) b (H k % 128) e4
  have hb1 : decide (b < 128) = false := by simp; omega
  have hb2 : decide (H k % 128 < 128) = true := by simp; omega
  have hb3 : ((H k % 128) == 254) = false := by simp; omega
  simp only [hb1, hb2, hb3, if_true, Bool.false_eq_true, if_false] at hc1 hc2
  have hcnt : Mp.cnt ⟨M.ctrl.set (8 * q + j) (H k % 128), M.slots.set (8 * q + j) (k, v)⟩ = M.cnt + 1 := by unfold Mp.cnt; simpa using hc1
  have htmb : Mp.tmb ⟨M.ctrl.set (8 * q + j) (H k % 128), M.slots.set (8 * q + j) (k, v)⟩ ≤ M.tmb := by unfold Mp.tmb; simp only; omega
  refine ⟨⟨by simpa using hI.len, by simpa using hI.slen, ?_, ?_, ?_, ?_, ?_⟩, set_g _ _ _ _, hcnt, htmb, ?_⟩
  · intro x hx
    rcases List.mem_or_eq_of_mem_set hx with h | h
    · exact hI.bytes x h
    · left; omega
  · rw [set_g]; omega
  · omega
  · intro i k' v' hf
    rw [set_g]
    rcases (hfu _ _ _).1 hf with ⟨rfl, _, e⟩ | ⟨hne, hf⟩
    · cases e
      refine ⟨List.getElem?_set_self hlt, t, ht, by rw [e1]; omega, fun s hs hb => e6 s hs (grp_set_ne hb (by omega))⟩
    · obtain ⟨p1, t', p2, p3, p4⟩ := hI.probe _ _ _ hf
      refine ⟨by rw [List.getElem?_set_ne (Ne.symm hne)]; exact p1, t', p2, p3, fun s hs hb => p4 s hs (grp_set_ne hb (by omega))⟩
  · intro i1 i2 k' v1 v2 h1 h2
    rcases (hfu _ _ _).1 h1 with ⟨rfl, _, e⟩ | ⟨hn1, h1⟩ <;> rcases (hfu _ _ _).1 h2 with ⟨rfl, _, e'⟩ | ⟨hn2, h2⟩
    · rfl
    · cases e; exact absurd ⟨_, h2⟩ (hk _)
    · cases e'; exact absurd ⟨_, h1⟩ (hk _)
    · exact hI.uniq _ _ _ _ _ h1 h2
  · intro k' v'
    constructor
    · rintro ⟨i, hf⟩
      rcases (hfu _ _ _).1 hf with ⟨_, _, e⟩ | ⟨_, hf⟩
      · cases e; exact .inl ⟨rfl, rfl⟩
      · exact .inr ⟨i, hf⟩
    · rintro (⟨rfl, rfl⟩ | ⟨i, hf⟩)
      · exact ⟨_, (hfu _ _ _).2 (.inl ⟨rfl, hw, rfl⟩)⟩
      · refine ⟨i, (hfu _ _ _).2 (.inr ⟨?_, hf⟩)⟩
        rintro rfl
        exact hnf _ _ hf
/-! ### the full slots -/
theorem mem_full {M : Mp} {k v : Tx} : (k, v) ∈ fullP M ↔ Has M k v := by
  unfold fullP Has Fu
  rw [List.mem_filterMap]
  constructor
  · rintro ⟨i, hi, h⟩
    have hlt := List.mem_range.1 hi
    have hc : M.ctrl[i]? = some M.ctrl[i] := List.getElem?_eq_getElem hlt
    rw [getD_of hc] at h
    split at h
    · exact ⟨i, _, hc, by assumption, h⟩
    · cases h
  · rintro ⟨i, c, h1, h2, h3⟩
    exact ⟨i, List.mem_range.2 (List.getElem?_eq_some_iff.1 h1).1, by rw [getD_of h1, if_pos h2]; exact h3⟩
theorem full_nodup {H : Tx → Nat} {M : Mp} (hI : Inv H M) : (fullP M).Pairwise (fun a b => a.1 ≠ b.1) := by
  unfold fullP
  rw [List.pairwise_filterMap]
  refine List.pairwise_lt_range.imp_of_mem ?_
  intro i j hi hj hij b hb b' hb' e
  have hli := List.mem_range.1 hi
  have hlj := List.mem_range.1 hj
  have hci : M.ctrl[i]? = some M.ctrl[i] := List.getElem?_eq_getElem hli
  have hcj : M.ctrl[j]? = some M.ctrl[j] := List.getElem?_eq_getElem hlj
  rw [getD_of hci] at hb
  rw [getD_of hcj] at hb'
  split at hb
  · split at hb'
    · have := hI.uniq i j b.1 b.2 b'.2 ⟨_, hci, by assumption, hb⟩ ⟨_, hcj, by assumption, by rw [hb', e]⟩
      omega
    · cases hb'
  · cases hb
theorem full_len {M : Mp} (hs : M.slots.length = M.ctrl.length) : (fullP M).length = M.cnt := by
  unfold fullP Mp.cnt
  rw [List.length_filterMap_eq_countP]
  have e : M.ctrl = (List.range M.ctrl.length).map fun i => M.ctrl.getD i 128 := by
    apply List.ext_getElem (by simp)
    intro i h1 h2
    simp [h1]
  conv => rhs; rw [e, List.countP_map]
  clear e
  apply List.countP_congr
  intro i hi
  have hlt := List.mem_range.1 hi
  simp only [Function.comp, decide_eq_true_eq]
  by_cases h : M.ctrl.getD i 128 < 128
  · rw [if_pos h, List.getElem?_eq_getElem (show i < M.slots.length by omega)]
    exact ⟨fun _ => h, fun _ => rfl⟩
  · rw [if_neg h]
    exact ⟨fun e => (by cases e), fun e => absurd e h⟩
theorem made_inv (H : Tx → Nat) {k : Nat} (hk : k ≤ 10) : Inv H (madeP (2 ^ k)) ∧ (madeP (2 ^ k)).g = 2 ^ k ∧ (madeP (2 ^ k)).cnt = 0 ∧ (madeP (2 ^ k)).tmb = 0 ∧ ∀ k' v', ¬ Has (madeP (2 ^ k)) k' v' := by
  have hg : (madeP (2 ^ k)).g = 2 ^ k := by simp [Mp.g, madeP]
  have hc : (madeP (2 ^ k)).cnt = 0 := by
    unfold Mp.cnt madeP
    rw [List.countP_eq_zero]
    intro b hb
    rw [List.eq_of_mem_replicate hb]; decide
  have ht : (madeP (2 ^ k)).tmb = 0 := by
    unfold Mp.tmb madeP
    rw [List.countP_eq_zero]
    intro b hb
    rw [List.eq_of_mem_replicate hb]; decide
  have hf : ∀ i k' v', ¬ Fu (madeP (2 ^ k)) i k' v' := by
    rintro i k' v' ⟨c, h1, h2, _⟩
    have := List.eq_of_mem_replicate (List.mem_of_getElem? h1)
    omega
  refine ⟨⟨⟨k, hk, by simp [madeP]⟩, by simp [madeP], ?_, by omega, by omega, fun i k' v' h => absurd h (hf _ _ _), fun i j k' v v' h => absurd h (hf _ _ _)⟩, hg, hc, ht, ?_⟩
  · intro b hb
    have := List.eq_of_mem_replicate hb
    omega
  · rintro k' v' ⟨i, h⟩
    exact hf _ _ _ h
theorem lays_inv {H : Tx → Nat} : ∀ (l : List Slot) (M : Mp), Inv H M → l.Pairwise (fun a b => a.1 ≠ b.1) → (∀ s ∈ l, ∀ v', ¬ Has M s.1 v') → M.tmb = 0 → M.cnt + l.length < 7 * M.g → M.cnt + l.length ≤ 2000 →
    Inv H (l.foldl (layP H) M) ∧ (l.foldl (layP H) M).g = M.g ∧ (l.foldl (layP H) M).cnt = M.cnt + l.length ∧ (l.foldl (layP H) M).tmb = 0 ∧ ∀ k v, Has (l.foldl (layP H) M) k v ↔ (k, v) ∈ l ∨ Has M k v
  | [], M, hI, _, _, ht, _, _ => ⟨hI, rfl, rfl, ht, fun k v => by simp⟩
  | s :: r, M, hI, hp, hn, ht, hr, hm => by
    simp only [List.length_cons] at hr hm
    obtain ⟨h1, h2, h3, h4, h5⟩ := lay_inv hI (k := s.1) (v := s.2) (hn s (List.mem_cons_self ..)) (by omega) (by omega)
    have hp' := List.pairwise_cons.1 hp
    obtain ⟨g1, g2, g3, g4, g5⟩ := lays_inv r (layP H M (s.1, s.2)) h1 hp'.2 (fun x hx v' hh => by
      rcases (h5 _ _).1 hh with ⟨e, _⟩ | hh
      · exact hp'.1 x hx e.symm
      · exact hn x (List.mem_cons_of_mem _ hx) _ hh) (by omega) (by omega) (by omega)
    simp only [List.foldl_cons]
    refine ⟨g1, by rw [g2, h2], by rw [g3, h3, List.length_cons]; omega, g4, fun k v => ?_⟩
    rw [g5, h5, List.mem_cons]
    constructor
    · rintro (h | ⟨rfl, rfl⟩ | h)
      · exact .inl (.inr h)
      · exact .inl (.inl rfl)
      · exact .inr h
    · rintro ((e | h) | h)
      · exact .inr (.inl ⟨congrArg Prod.fst e, congrArg Prod.snd e⟩)
      · exact .inl h
      · exact .inr (.inr h)
theorem newG_pow {H : Tx → Nat} {M : Mp} (hI : Inv H M) (hfull : 7 * M.g ≤ M.cnt + M.tmb) (hm : M.cnt < 2000) : (∃ k, k ≤ 10 ∧ newG M = 2 ^ k) ∧ M.cnt < 7 * newG M := by
  obtain ⟨k, hk, hp⟩ := hI.pow
  have hp0 : 0 < M.g := by rw [hp]; exact Nat.pow_pos (by omega)
  have hr := hI.room
  unfold newG
  split
  · rename_i hc
    have hg : M.g ≤ 571 := by omega
    have hk9 : k ≤ 9 := by
      rcases Nat.lt_or_ge 9 k with h | h
      · have : 2 ^ 10 ≤ 2 ^ k := Nat.pow_le_pow_right (by omega) h
        omega
      · exact h
    exact ⟨⟨k + 1, by omega, by rw [hp, Nat.pow_succ]⟩, by omega⟩
  · rename_i hc
    exact ⟨⟨k, hk, hp⟩, by omega⟩
theorem rehash_inv {H : Tx → Nat} {M : Mp} (hI : Inv H M) (hfull : 7 * M.g ≤ M.cnt + M.tmb) (hm : M.cnt < 2000) :
    Inv H (rehashP H M) ∧ (rehashP H M).cnt = M.cnt ∧ (rehashP H M).tmb = 0 ∧ (rehashP H M).cnt < 7 * (rehashP H M).g ∧ ∀ k v, Has (rehashP H M) k v ↔ Has M k v := by
  obtain ⟨⟨k, hk, e⟩, h7⟩ := newG_pow hI hfull hm
  obtain ⟨m1, m2, m3, m4, m5⟩ := made_inv H hk
  have hl := full_len hI.slen
  rw [e] at h7
  obtain ⟨g1, g2, g3, g4, g5⟩ := lays_inv (fullP M) (madeP (2 ^ k)) m1 (full_nodup hI) (fun s _ v' => m5 _ _) m4 (by rw [m2]; omega) (by omega)
  unfold rehashP
  rw [e]
  refine ⟨g1, by omega, g4, by rw [g2, m2]; omega, fun k' v' => ?_⟩
  rw [g5, mem_full]
  exact ⟨fun h => h.elim id (fun h => absurd h (m5 _ _)), .inl⟩
theorem setV_inv {H : Tx → Nat} {M : Mp} (hI : Inv H M) {k v0 v : Tx} {i : Nat} (hf : Fu M i k v0) : Inv H (setV M i v) ∧ (setV M i v).cnt = M.cnt ∧ ∀ k' v', Has (setV M i v) k' v' ↔ (k' = k ∧ v' = v) ∨ (k' ≠ k ∧ Has M k' v') := by
  obtain ⟨c, h1, h2, h3⟩ := hf
  have hlt := (List.getElem?_eq_some_iff.1 h1).1
  have hself : M.ctrl.set i c = M.ctrl := List.ext_getElem? fun j => by
    rw [List.getElem?_set]
    split
    · rename_i e; subst e; exact h1.symm
    · rfl
  have hdef : setV M i v = ⟨M.ctrl.set i c, M.slots.set i (k, v)⟩ := by
    unfold setV
    rw [hself, getD_of h3]
  have hfu := fun (j' : Nat) (k' v' : Tx) => @fu_set M i c (k, v) hI.slen hlt j' k' v'
  rw [← hdef] at hfu
  have hF : ∀ j k' v', Fu (setV M i v) j k' v' → ∃ v'', Fu M j k' v'' := by
    intro j k' v' h
    rcases (hfu _ _ _).1 h with ⟨rfl, _, e⟩ | ⟨_, h⟩
    · cases e; exact ⟨v0, c, h1, h2, h3⟩
    · exact ⟨v', h⟩
  refine ⟨⟨hI.len, by simpa [setV] using hI.slen, hI.bytes, hI.room, hI.most, fun j k' v' h => ?_, fun j1 j2 k' v1 v2 a1 a2 => ?_⟩, rfl, fun k' v' => ?_⟩
  · obtain ⟨v'', h'⟩ := hF _ _ _ h
    exact hI.probe _ _ _ h'
  · obtain ⟨w1, b1⟩ := hF _ _ _ a1
    obtain ⟨w2, b2⟩ := hF _ _ _ a2
    exact hI.uniq _ _ _ _ _ b1 b2
  · constructor
    · rintro ⟨j, h⟩
      rcases (hfu _ _ _).1 h with ⟨_, _, e⟩ | ⟨hne, h⟩
      · cases e; exact .inl ⟨rfl, rfl⟩
      · refine .inr ⟨fun e => hne ?_, j, h⟩
        subst e
        exact hI.uniq _ _ _ _ _ h ⟨c, h1, h2, h3⟩
    · rintro (⟨rfl, rfl⟩ | ⟨hne, j, h⟩)
      · exact ⟨i, (hfu _ _ _).2 (.inl ⟨rfl, h2, rfl⟩)⟩
      · refine ⟨j, (hfu _ _ _).2 (.inr ⟨?_, h⟩)⟩
        rintro rfl
        obtain ⟨c', _, _, h3'⟩ := h
        rw [h3] at h3'
        cases h3'
        exact hne rfl
/-- Put -/
theorem put_inv {H : Tx → Nat} {M : Mp} (hI : Inv H M) (k v : Tx) : Inv H (putP H M k v).1 ∧
    ((putP H M k v = (M, false, 7) ∧ M.cnt = 2000 ∧ ∀ v', ¬ Has M k v') ∨ ((putP H M k v).2.2 = 0 ∧ ((putP H M k v).2.1 = true ↔ ∃ v', Has M k v') ∧ (putP H M k v).1.cnt = M.cnt + (if (putP H M k v).2.1 then 0 else 1) ∧ ∀ k' v', Has (putP H M k v).1 k' v' ↔ (k' = k ∧ v' = v) ∨ (k' ≠ k ∧ Has M k' v'))) := by
  unfold putP
  cases hf : findP H M k with
  | some i =>
    obtain ⟨v0, h⟩ := find_mem hI hf
    obtain ⟨g1, g2, g3⟩ := setV_inv (v := v) hI h
    exact ⟨g1, .inr ⟨rfl, ⟨fun _ => ⟨v0, i, h⟩, fun _ => rfl⟩, by simpa using g2, g3⟩⟩
  | none =>
    have hn := (find_none hI).1 hf
    simp only
    by_cases h2 : 2000 ≤ M.cnt
    · rw [if_pos h2]
      exact ⟨hI, .inl ⟨rfl, by have := hI.most; omega, hn⟩⟩
    · rw [if_neg h2]
      obtain ⟨M1, hM1⟩ : ∃ M1, (if 7 * M.g ≤ M.cnt + M.tmb then rehashP H M else M) = M1 := ⟨_, rfl⟩
      have h1 : Inv H M1 ∧ M1.cnt = M.cnt ∧ M1.cnt + M1.tmb < 7 * M1.g ∧ ∀ k v, Has M1 k v ↔ Has M k v := by
        rw [← hM1]
        split
        · rename_i hc
          obtain ⟨r1, r2, r3, r4, r5⟩ := rehash_inv hI hc (by omega)
          exact ⟨r1, r2, by omega, r5⟩
        · exact ⟨hI, rfl, by omega, fun _ _ => Iff.rfl⟩
      rw [hM1]
      obtain ⟨r1, r2, r3, r4⟩ := h1
      obtain ⟨g1, g2, g3, g4, g5⟩ := lay_inv r1 (k := k) (v := v) (fun v' h => hn v' ((r4 _ _).1 h)) r3 (by omega)
      refine ⟨g1, .inr ⟨rfl, ⟨(fun e => by cases e), fun ⟨v', h⟩ => absurd h (hn v')⟩, by simp [g3, r2], fun k' v' => ?_⟩⟩
      rw [g5, r4]
      constructor
      · rintro (h | h)
        · exact .inl h
        · exact .inr ⟨fun e => hn _ (e ▸ h), h⟩
      · rintro (h | ⟨_, h⟩)
        · exact .inl h
        · exact .inr h
/-- Delete -/
theorem del_inv {H : Tx → Nat} {M : Mp} (hI : Inv H M) (k : Tx) : Inv H (delP H M k).1 ∧ ((delP H M k).2 = true ↔ ∃ v', Has M k v') ∧ (delP H M k).1.cnt + (if (delP H M k).2 then 1 else 0) = M.cnt ∧ ∀ k' v', Has (delP H M k).1 k' v' ↔ k' ≠ k ∧ Has M k' v' := by
  unfold delP
  cases hf : findP H M k with
  | none =>
    have hn := (find_none hI).1 hf
    exact ⟨hI, ⟨(fun e => by cases e), fun ⟨v', h⟩ => absurd h (hn v')⟩, rfl, fun k' v' => ⟨fun h => ⟨fun e => hn _ (e ▸ h), h⟩, fun h => h.2⟩⟩
  | some i =>
    obtain ⟨v0, h⟩ := find_mem hI hf
    have hF := h
    obtain ⟨c, h1, h2, h3⟩ := h
    have hlt := (List.getElem?_eq_some_iff.1 h1).1
    have hg8 := hI.g8
    have hfu := fun (j' : Nat) (k' v' : Tx) => @fu_set M i (delC M i) zslot hI.slen hlt j' k' v'
    have hd : delC M i = 254 ∨ (delC M i = 128 ∧ 128 ∈ grp M.ctrl (i / 8)) := by
      unfold delC
      split
      · exact .inl rfl
      · rename_i hz
        refine .inr ⟨rfl, ?_⟩
        apply Classical.byContradiction
        intro hn
        refine hz ((bits_zero (grp_len hg8 (by omega))).2 fun b hb => ?_)
        simp only [beq_eq_false_iff_ne]
        intro e; exact hn (e ▸ hb)
    have hd1 : ¬ delC M i < 128 := by omega
    have hfu' : ∀ j k' v', Fu ⟨M.ctrl.set i (delC M i), M.slots.set i zslot⟩ j k' v' ↔ j ≠ i ∧ Fu M j k' v' := fun j k' v' => by
      rw [hfu]
      exact ⟨fun h => h.elim (fun h => absurd h.2.1 hd1) id, .inr⟩
    have hc1 := countP_set (fun b => decide (b < 128)) M.ctrl i c (delC M i) h1
    have hc2 := countP_set (fun b => b == 254) M.ctrl i c (delC M i) h1
    have hb1 : decide (c < 128) = true := by simp; omega
    have hb2 : decide (delC M i < 128) = false := by simp; omega
    have hb3 : (c == 254) = false := by simp; omega
    simp only [hb1, hb2, hb3, if_true, Bool.false_eq_true, if_false] at hc1 hc2
    have hcnt : Mp.cnt ⟨M.ctrl.set i (delC M i), M.slots.set i zslot⟩ + 1 = M.cnt := by unfold Mp.cnt; simpa using hc1
    have htmb : Mp.tmb ⟨M.ctrl.set i (delC M i), M.slots.set i zslot⟩ ≤ M.tmb + 1 := by
      unfold Mp.tmb; simp only
      split at hc2 <;> omega
    have hrm := hI.room
    have hmo := hI.most
    dsimp only
    refine ⟨⟨by simpa using hI.len, by simpa using hI.slen, ?_, by rw [set_g]; omega, by omega, ?_, ?_⟩, ⟨fun _ => ⟨v0, i, hF⟩, fun _ => rfl⟩, by simpa using hcnt, ?_⟩
    · intro x hx
      rcases List.mem_or_eq_of_mem_set hx with h | h
      · exact hI.bytes x h
      · omega
    · intro j k' v' hj
      obtain ⟨hne, hj⟩ := (hfu' _ _ _).1 hj
      obtain ⟨p1, t, p2, p3, p4⟩ := hI.probe _ _ _ hj
      rw [set_g]
      refine ⟨by rw [List.getElem?_set_ne (Ne.symm hne)]; exact p1, t, p2, p3, fun s hs hb => p4 s hs ?_⟩
      rcases hd with e | ⟨e, hin⟩
      · exact grp_set_ne hb (by omega)
      · refine grp_set_other hb fun e2 => ?_
        exact p4 s hs (e2 ▸ hin)
    · intro j1 j2 k' v1 v2 a1 a2
      exact hI.uniq _ _ _ _ _ ((hfu' _ _ _).1 a1).2 ((hfu' _ _ _).1 a2).2
    · intro k' v'
      constructor
      · rintro ⟨j, hj⟩
        obtain ⟨hne, hj⟩ := (hfu' _ _ _).1 hj
        refine ⟨fun e => hne ?_, j, hj⟩
        subst e
        exact hI.uniq _ _ _ _ _ hj hF
      · rintro ⟨hne, j, hj⟩
        refine ⟨j, (hfu' _ _ _).2 ⟨?_, hj⟩⟩
        rintro rfl
        obtain ⟨_, _, _, h3'⟩ := hj
        rw [h3] at h3'
        cases h3'
        exact hne rfl
end Go.Proofs.YtodledidabdkaaaGreatDoor.V

namespace Go.Proofs.YtodledidabdkaaaGreatDoor.V
set_option linter.unusedVariables false
set_option linter.unusedSimpArgs false
abbrev bl (a : Tx) : List UInt8 := a.data.toList
theorem bl_inj {a b : Tx} (h : bl a = bl b) : a = b := by
  cases a with | mk x => cases b with | mk y => cases x with | mk x => cases y with | mk y => simp [bl] at h; rw [h]
/-- by keys, each once -/
def Srt (l : List Slot) : Prop := l.Pairwise fun a b => bl a.1 < bl b.1
theorem lt_ir {a : List UInt8} : ¬ a < a := List.lt_irrefl a
theorem lt_tr {a b c : List UInt8} (h : a < b) (k : b < c) : a < c := List.lt_trans h k
theorem lt_as {a b : List UInt8} (h : a < b) : ¬ b < a := fun k => lt_ir (lt_tr h k)
theorem tri_lt (a b : List UInt8) : a < b ∨ a = b ∨ b < a := by
  by_cases h : a < b
  · exact .inl h
  · by_cases k : b < a
    · exact .inr (.inr k)
    · exact .inr (.inl (List.le_antisymm (List.not_lt.1 k) (List.not_lt.1 h)))
theorem srt_unique : ∀ {l m : List Slot}, Srt l → Srt m → (∀ x, x ∈ l ↔ x ∈ m) → l = m
  | [], [], _, _, _ => rfl
  | [], b :: m, _, _, h => by have := (h b).2 (List.mem_cons_self ..); cases this
  | a :: l, [], _, _, h => by have := (h a).1 (List.mem_cons_self ..); cases this
  | a :: l, b :: m, hl, hm, h => by
    have ha := List.pairwise_cons.1 hl
    have hb := List.pairwise_cons.1 hm
    have hab : a = b := by
      rcases List.mem_cons.1 ((h a).1 (List.mem_cons_self ..)) with e | h1
      · exact e
      · rcases List.mem_cons.1 ((h b).2 (List.mem_cons_self ..)) with e | h2
        · exact e.symm
        · exact absurd (ha.1 _ h2) (lt_as (hb.1 _ h1))
    subst hab
    rw [srt_unique ha.2 hb.2 fun x => ?_]
    constructor
    · intro hx
      rcases List.mem_cons.1 ((h x).1 (List.mem_cons_of_mem _ hx)) with e | h1
      · subst e; exact absurd (ha.1 _ hx) lt_ir
      · exact h1
    · intro hx
      rcases List.mem_cons.1 ((h x).2 (List.mem_cons_of_mem _ hx)) with e | h1
      · subst e; exact absurd (hb.1 _ hx) lt_ir
      · exact h1
theorem srt_key {l : List Slot} (h : Srt l) {k v v' : Tx} (h1 : (k, v) ∈ l) (h2 : (k, v') ∈ l) : v = v' := by
  induction l with
  | nil => cases h1
  | cons a l ih =>
    have ha := List.pairwise_cons.1 h
    rcases List.mem_cons.1 h1 with e1 | h1 <;> rcases List.mem_cons.1 h2 with e2 | h2
    · rw [← e1] at e2; exact (congrArg Prod.snd e2).symm
    · exact absurd (e1 ▸ ha.1 _ h2) lt_ir
    · exact absurd (e2 ▸ ha.1 _ h1) lt_ir
    · exact ih ha.2 h1 h2
/-- the pairs of a map by keys -/
def pairsP (M : Mp) : List Slot := (fullP M).mergeSort fun a b => decide (bl a.1 ≤ bl b.1)
theorem sort_srt {l m : List Slot} (hp : m.Perm l) (hk : l.Pairwise fun a b => a.1 ≠ b.1) (hs : m.Pairwise fun a b => ¬ bl b.1 < bl a.1) : Srt m := by
  have hk' : m.Pairwise fun a b => a.1 ≠ b.1 := (hp.pairwise_iff (fun h => Ne.symm h)).2 hk
  refine (hk'.and hs).imp ?_
  rintro a b ⟨h1, h2⟩
  rcases tri_lt (bl a.1) (bl b.1) with h | h | h
  · exact h
  · exact absurd (bl_inj h) h1
  · exact absurd h h2
theorem pairs_srt {H : Tx → Nat} {M : Mp} (hI : Inv H M) : Srt (pairsP M) := by
  refine sort_srt (List.mergeSort_perm _ _) (full_nodup hI) ?_
  have := List.pairwise_mergeSort (le := fun a b : Slot => decide (bl a.1 ≤ bl b.1)) (fun a b c h1 h2 => by
    simp only [decide_eq_true_eq] at *
    exact List.le_trans h1 h2) (fun a b => by
    simp only [Bool.or_eq_true, decide_eq_true_eq]
    exact List.le_total _ _) (fullP M)
  refine this.imp ?_
  intro a b h hn
  simp only [decide_eq_true_eq] at h
  exact h hn
theorem pairs_mem {M : Mp} {k v : Tx} : (k, v) ∈ pairsP M ↔ Has M k v := by
  unfold pairsP
  rw [(List.mergeSort_perm _ _).mem_iff, mem_full]
theorem pairs_len {M : Mp} (hs : M.slots.length = M.ctrl.length) : (pairsP M).length = M.cnt := by
  unfold pairsP
  rw [(List.mergeSort_perm _ _).length_eq, full_len hs]
/-- what is sorted, and has a map's pairs, is its pairs -/
theorem pairs_of {H : Tx → Nat} {M : Mp} (hI : Inv H M) {l : List Slot} (hs : Srt l) (h : ∀ k v, (k, v) ∈ l ↔ Has M k v) : pairsP M = l :=
  srt_unique (pairs_srt hI) hs fun x => by
    obtain ⟨k, v⟩ := x
    rw [pairs_mem, h]
theorem pairs_sort {H : Tx → Nat} {M : Mp} (hI : Inv H M) {l m : List Slot} (hl : l.Perm (fullP M)) (hp : m.Perm l) (hs : m.Pairwise fun a b => ¬ bl b.1 < bl a.1) : m = pairsP M :=
  (pairs_of hI (sort_srt (hp.trans hl) (full_nodup hI) hs) fun k v => by rw [(hp.trans hl).mem_iff, mem_full]).symm
/-- those of a range -/
def inR (lo hi : Tx) (p : Slot) : Bool := !decide (bl p.1 < bl lo) && (decide (hi = ByteArray.empty) || decide (bl p.1 < bl hi))
def rangeP (l : List Slot) (lo hi : Tx) (n : Int) : List Slot := (l.filter (inR lo hi)).take (max n 0).toNat
end Go.Proofs.YtodledidabdkaaaGreatDoor.V

namespace Go.Proofs.YtodledidabdkaaaGreatDoor.V
set_option linter.unusedVariables false
set_option linter.unusedSimpArgs false
/-- turned to the left -/
def rl (x r : Nat) : Nat := (x * 2 ^ r % 18446744073709551616) ||| (x / 2 ^ (64 - r))
def halfA (a b : Nat) : Nat := (a + b) % 18446744073709551616
def halfB (a b r : Nat) : Nat := rl b r ^^^ halfA a b
structure V4 where
  a : Nat
  b : Nat
  c : Nat
  d : Nat
def V4.ok (v : V4) : Prop := v.a < 18446744073709551616 ∧ v.b < 18446744073709551616 ∧ v.c < 18446744073709551616 ∧ v.d < 18446744073709551616
def roundP (v : V4) : V4 :=
  let a1 := halfA v.a v.b
  let b1 := halfB v.a v.b 13
  let a2 := rl a1 32
  let c1 := halfA v.c v.d
  let d1 := halfB v.c v.d 16
  let a3 := halfA a2 d1
  let d2 := halfB a2 d1 21
  let c2 := halfA c1 b1
  let b2 := halfB c1 b1 17
  ⟨a3, b2, rl c2 32, d2⟩
theorem rl_lt {x r : Nat} (hx : x < 18446744073709551616) : rl x r < 18446744073709551616 := Nat.or_lt_two_pow (n := 64) (Nat.mod_lt _ (by decide)) (Nat.lt_of_le_of_lt (Nat.div_le_self _ _) hx)
theorem halfA_lt (a b : Nat) : halfA a b < 18446744073709551616 := Nat.mod_lt _ (by decide)
theorem halfB_lt {a b r : Nat} (hb : b < 18446744073709551616) : halfB a b r < 18446744073709551616 := Nat.xor_lt_two_pow (n := 64) (rl_lt hb) (halfA_lt a b)
theorem round_ok {v : V4} (h : v.ok) : (roundP v).ok := by
  obtain ⟨h1, h2, h3, h4⟩ := h
  exact ⟨halfA_lt _ _, halfB_lt (halfB_lt h2), rl_lt (halfA_lt _ _), halfB_lt (halfB_lt h4)⟩
/-- a word goes in -/
def takeP (v : V4) (m : Nat) : V4 :=
  let u := roundP (roundP { v with d := v.d ^^^ m })
  { u with a := u.a ^^^ m }
theorem xor_lt64 {a b : Nat} (ha : a < 18446744073709551616) (hb : b < 18446744073709551616) : a ^^^ b < 18446744073709551616 := Nat.xor_lt_two_pow (n := 64) ha hb
theorem take_ok {v : V4} (h : v.ok) {m : Nat} (hm : m < 18446744073709551616) : (takeP v m).ok := by
  have h1 : V4.ok { v with d := v.d ^^^ m } := ⟨h.1, h.2.1, h.2.2.1, xor_lt64 h.2.2.2 hm⟩
  have h2 := round_ok (round_ok h1)
  exact ⟨xor_lt64 h2.1 hm, h2.2.1, h2.2.2.1, h2.2.2.2⟩
def natsB (l : List UInt8) : List Nat := l.map fun x => x.toNat
theorem bt_natsB (l : List UInt8) : Bt (natsB l) := by
  intro b hb
  obtain ⟨x, _, rfl⟩ := List.mem_map.1 hb
  exact x.toNat_lt
def wordP (l : List UInt8) : Nat := wd (natsB l)
theorem word_lt {l : List UInt8} (h : l.length ≤ 8) : wordP l < 18446744073709551616 := by
  have h1 := wd_lt (natsB l) (bt_natsB l)
  have h2 : 256 ^ (natsB l).length ≤ 256 ^ 8 := Nat.pow_le_pow_right (by omega) (by simpa [natsB] using h)
  exact Nat.lt_of_lt_of_le h1 h2
/-- the whole words -/
def eatP (v : V4) (l : List UInt8) : V4 × List UInt8 := if h : 8 ≤ l.length then eatP (takeP v (wordP (l.take 8))) (l.drop 8) else (v, l)
  termination_by l.length
  decreasing_by simp; omega
def lastM (l : List UInt8) (n : Nat) : Nat := wordP l ||| (n * 72057594037927936 % 18446744073709551616)
def beginP (k0 k1 : Nat) : V4 := ⟨k0 ^^^ 8317987319222330741, k1 ^^^ 7237128888997146477, k0 ^^^ 7816392313619706465, k1 ^^^ 8387220255154660723⟩
def itR (f : V4 → V4) : Nat → V4 → V4
  | 0, v => v
  | k + 1, v => itR f k (f v)
theorem it_ok {f : V4 → V4} (hf : ∀ v, v.ok → (f v).ok) (k : Nat) : ∀ (v : V4), v.ok → (itR f k v).ok := by
  induction k with
  | zero => intro v h; exact h
  | succ k ih =>
    intro v h
    rw [itR]
    exact ih _ (hf v h)
def endP (v : V4) : Nat := (itR roundP 4 ⟨v.a, v.b, v.c ^^^ 255, v.d⟩).a ^^^ (itR roundP 4 ⟨v.a, v.b, v.c ^^^ 255, v.d⟩).b ^^^ (itR roundP 4 ⟨v.a, v.b, v.c ^^^ 255, v.d⟩).c ^^^ (itR roundP 4 ⟨v.a, v.b, v.c ^^^ 255, v.d⟩).d
def sipP (k0 k1 : Nat) (s : ByteArray) : Nat :=
  let x := eatP (beginP k0 k1) s.data.toList
  endP (takeP x.1 (lastM x.2 s.data.toList.length))
theorem begin_ok {k0 k1 : Nat} (h0 : k0 < 18446744073709551616) (h1 : k1 < 18446744073709551616) : (beginP k0 k1).ok := ⟨xor_lt64 h0 (by decide), xor_lt64 h1 (by decide), xor_lt64 h0 (by decide), xor_lt64 h1 (by decide)⟩
theorem eat_ok {v : V4} (h : v.ok) (l : List UInt8) : (eatP v l).1.ok ∧ (eatP v l).2.length < 8 := by
  induction hn : l.length using Nat.strongRecOn generalizing v l with
  | _ n ih =>
    rw [eatP]
    split
    · rename_i h8
      exact ih (l.drop 8).length (by simp; omega) (take_ok h (word_lt (by simp; omega))) _ rfl
    · exact ⟨h, by simp only; omega⟩
theorem last_lt {l : List UInt8} {n : Nat} (h : l.length < 8) : lastM l n < 18446744073709551616 := Nat.or_lt_two_pow (n := 64) (word_lt (by omega)) (Nat.mod_lt _ (by decide))
theorem end_lt {v : V4} (h : v.ok) : endP v < 18446744073709551616 := by
  have h1 : V4.ok ⟨v.a, v.b, v.c ^^^ 255, v.d⟩ := ⟨h.1, h.2.1, xor_lt64 h.2.2.1 (by decide), h.2.2.2⟩
  have h2 := it_ok (fun v h => round_ok h) 4 _ h1
  exact xor_lt64 (xor_lt64 (xor_lt64 h2.1 h2.2.1) h2.2.2.1) h2.2.2.2
theorem sip_lt {k0 k1 : Nat} (h0 : k0 < 18446744073709551616) (h1 : k1 < 18446744073709551616) (s : ByteArray) : sipP k0 k1 s < 18446744073709551616 := by
  obtain ⟨e1, e2⟩ := eat_ok (begin_ok h0 h1) s.data.toList
  exact end_lt (take_ok e1 (last_lt e2))
end Go.Proofs.YtodledidabdkaaaGreatDoor.V
