/- Words of eight bytes and sets of eight bits: plain words, with no program in sight. No condition. -/
namespace Go.Proofs.YtodledidabdkaaaDoor.V
set_option linter.unusedVariables false
set_option linter.unusedSimpArgs false
/-- a number of bytes, the lowest first -/
def wd : List Nat → Nat
  | [] => 0
  | b :: r => b + 256 * wd r
abbrev Bt (l : List Nat) : Prop := ∀ b ∈ l, b < 256
theorem wd_lt : ∀ (l : List Nat), Bt l → wd l < 256 ^ l.length
  | [], _ => by simp [wd]
  | b :: r, h => by
    have h1 := wd_lt r (fun x hx => h x (List.mem_cons_of_mem _ hx))
    have h2 := h b (List.mem_cons_self ..)
    simp only [wd, List.length_cons, Nat.pow_succ]
    omega
theorem wd_lt8 {l : List Nat} (h : Bt l) (h8 : l.length = 8) : wd l < 18446744073709551616 := by
  have := wd_lt l h
  rw [h8] at this
  exact this
theorem tb (a b j : Nat) (h : b < 256) : (b + 256 * a).testBit j = if j < 8 then b.testBit j else a.testBit (j - 8) := by
  rw [Nat.add_comm]
  exact Nat.testBit_two_pow_mul_add a (i := 8) h j
theorem and256 (a b q r : Nat) (ha : a < 256) (hb : b < 256) : (a + 256 * q) &&& (b + 256 * r) = (a &&& b) + 256 * (q &&& r) := by
  apply Nat.eq_of_testBit_eq
  intro j
  rw [Nat.testBit_and, tb _ _ _ ha, tb _ _ _ hb, tb _ _ _ (Nat.and_lt_two_pow (n := 8) _ hb)]
  split <;> simp
theorem or256 (a b q r : Nat) (ha : a < 256) (hb : b < 256) : (a + 256 * q) ||| (b + 256 * r) = (a ||| b) + 256 * (q ||| r) := by
  apply Nat.eq_of_testBit_eq
  intro j
  rw [Nat.testBit_or, tb _ _ _ ha, tb _ _ _ hb, tb _ _ _ (Nat.or_lt_two_pow (n := 8) ha hb)]
  split <;> simp
theorem xor256 (a b q r : Nat) (ha : a < 256) (hb : b < 256) : (a + 256 * q) ^^^ (b + 256 * r) = (a ^^^ b) + 256 * (q ^^^ r) := by
  apply Nat.eq_of_testBit_eq
  intro j
  rw [Nat.testBit_xor, tb _ _ _ ha, tb _ _ _ hb, tb _ _ _ (Nat.xor_lt_two_pow (n := 8) ha hb)]
  split <;> simp
theorem wd_op (op : Nat → Nat → Nat) (h0 : op 0 0 = 0) (hop : ∀ a b q r, a < 256 → b < 256 → op (a + 256 * q) (b + 256 * r) = op a b + 256 * op q r) (c : Nat) (hc : c < 256) :
    ∀ (l : List Nat), Bt l → op (wd l) (wd (List.replicate l.length c)) = wd (l.map fun b => op b c)
  | [], _ => h0
  | b :: r, h => by
    simp only [wd, List.length_cons, List.replicate_succ, List.map_cons]
    rw [hop _ _ _ _ (h b (List.mem_cons_self ..)) hc, wd_op op h0 hop c hc r (fun x hx => h x (List.mem_cons_of_mem _ hx))]
theorem wd_op2 (op : Nat → Nat → Nat) (h0 : op 0 0 = 0) (hop : ∀ a b q r, a < 256 → b < 256 → op (a + 256 * q) (b + 256 * r) = op a b + 256 * op q r) (f g : Nat → Nat) :
    ∀ (l : List Nat), (∀ b ∈ l, f b < 256) → (∀ b ∈ l, g b < 256) → op (wd (l.map f)) (wd (l.map g)) = wd (l.map fun b => op (f b) (g b))
  | [], _, _ => h0
  | b :: r, h1, h2 => by
    simp only [wd, List.map_cons]
    rw [hop _ _ _ _ (h1 b (List.mem_cons_self ..)) (h2 b (List.mem_cons_self ..)), wd_op2 op h0 hop f g r (fun x hx => h1 x (List.mem_cons_of_mem _ hx)) (fun x hx => h2 x (List.mem_cons_of_mem _ hx))]
theorem wd_rep (c : Nat) : wd (List.replicate 8 c) = c * 72340172838076673 := by
  simp only [List.replicate, wd]; omega
theorem map_const {l : List Nat} (h8 : l.length = 8) (c : Nat) : l.map (fun _ => c) = List.replicate 8 c := by
  rw [List.map_const', h8]
theorem wd_mapc {l : List Nat} (h8 : l.length = 8) (c : Nat) : wd (l.map fun _ => c) = c * 72340172838076673 := by rw [map_const h8, wd_rep]
theorem wd_add (f g : Nat → Nat) : ∀ (l : List Nat), wd (l.map f) + wd (l.map g) = wd (l.map fun b => f b + g b)
  | [] => rfl
  | b :: r => by
    have := wd_add f g r
    simp only [wd, List.map_cons]; omega
theorem wd_mul (c : Nat) (f : Nat → Nat) : ∀ (l : List Nat), c * wd (l.map f) = wd (l.map fun b => c * f b)
  | [] => rfl
  | b :: r => by
    have := wd_mul c f r
    simp only [wd, List.map_cons, ← this, Nat.mul_add]
    rw [Nat.mul_left_comm]
theorem wd_congr {f g : Nat → Nat} {l : List Nat} (h : ∀ b ∈ l, f b = g b) : wd (l.map f) = wd (l.map g) := by rw [List.map_congr_left h]
theorem map_id' (l : List Nat) : l.map (fun b => b) = l := List.map_id' l
/-- the sets: a bit an element -/
def bitsOf (p : Nat → Bool) : List Nat → Nat
  | [] => 0
  | b :: r => (if p b then 1 else 0) + 2 * bitsOf p r
theorem bits_lt (p : Nat → Bool) : ∀ l : List Nat, bitsOf p l < 2 ^ l.length
  | [] => by simp [bitsOf]
  | b :: r => by
    have := bits_lt p r
    simp only [bitsOf, List.length_cons, Nat.pow_succ]
    split <;> omega
theorem bits_test (p : Nat → Bool) : ∀ (l : List Nat) (i : Nat), (bitsOf p l).testBit i = (l[i]?.map p).getD false
  | [], i => by simp [bitsOf]
  | b :: r, 0 => by
    simp only [bitsOf, List.getElem?_cons_zero, Option.map_some, Option.getD_some]
    rw [Nat.testBit_zero]
    cases h : p b <;> simp <;> omega
  | b :: r, i + 1 => by
    have := bits_test p r i
    rw [List.getElem?_cons_succ, ← this, bitsOf, Nat.testBit_succ]
    congr 1
    split <;> omega
theorem bits_congr {p q : Nat → Bool} : ∀ {l : List Nat}, (∀ b ∈ l, p b = q b) → bitsOf p l = bitsOf q l
  | [], _ => rfl
  | b :: r, h => by rw [bitsOf, bitsOf, h b (List.mem_cons_self ..), bits_congr (fun x hx => h x (List.mem_cons_of_mem _ hx))]
theorem bits_or (p q : Nat → Bool) (l : List Nat) : bitsOf p l ||| bitsOf q l = bitsOf (fun b => p b || q b) l := by
  apply Nat.eq_of_testBit_eq
  intro j
  rw [Nat.testBit_or, bits_test, bits_test, bits_test]
  cases l[j]? <;> rfl
theorem gather_tab : ∀ n : Fin 256, (n.val % 2 + 256 * (n.val / 2 % 2 + 256 * (n.val / 2 / 2 % 2 + 256 * (n.val / 2 / 2 / 2 % 2 + 256 * (n.val / 2 / 2 / 2 / 2 % 2 + 256 * (n.val / 2 / 2 / 2 / 2 / 2 % 2 + 256 * (n.val / 2 / 2 / 2 / 2 / 2 / 2 % 2 + 256 * (n.val / 2 / 2 / 2 / 2 / 2 / 2 / 2 % 2)))))))) * 72624976668147840 % 18446744073709551616 / 72057594037927936 = n.val := by decide +kernel
theorem gather_at (n : Nat) (hn : n < 2 * 128) : (n % 2 + 256 * (n / 2 % 2 + 256 * (n / 2 / 2 % 2 + 256 * (n / 2 / 2 / 2 % 2 + 256 * (n / 2 / 2 / 2 / 2 % 2 + 256 * (n / 2 / 2 / 2 / 2 / 2 % 2 + 256 * (n / 2 / 2 / 2 / 2 / 2 / 2 % 2 + 256 * (n / 2 / 2 / 2 / 2 / 2 / 2 / 2 % 2)))))))) * 72624976668147840 % 18446744073709551616 / 72057594037927936 = n := gather_tab ⟨n, hn⟩
/-- the highest bits of all bytes, gathered -/
theorem gather_eq (l : List Nat) (hb : Bt l) (h8 : l.length = 8) : ((wd l &&& 9259542123273814144) / 128 * 72624976668147840) % 18446744073709551616 / 72057594037927936 = bitsOf (fun b => decide (128 ≤ b)) l := by
  have e1 : wd l &&& 9259542123273814144 = 128 * wd (l.map fun b => b / 128) := by
    have := wd_op (· &&& ·) rfl and256 128 (by omega) l hb
    rw [h8, wd_rep] at this
    rw [show (9259542123273814144 : Nat) = 128 * 72340172838076673 from rfl]
    have this : wd l &&& 128 * 72340172838076673 = wd (l.map fun b => b &&& 128) := this
    rw [this, wd_mul]
    refine wd_congr fun b hb' => ?_
    have : ∀ b : Fin 256, b.val &&& 128 = 128 * (b.val / 128) := by decide +kernel
    exact this ⟨b, hb b hb'⟩
  rw [e1, Nat.mul_div_cancel_left _ (by omega)]
  have e2 : bitsOf (fun b => decide (128 ≤ b)) l = bitsOf (fun t => decide (t = 1)) (l.map fun b => b / 128) := by
    clear e1 h8
    induction l with
    | nil => rfl
    | cons b r ih =>
      have h1 := hb b (List.mem_cons_self ..)
      simp only [bitsOf, List.map_cons, decide_eq_true_eq]
      rw [ih (fun x hx => hb x (List.mem_cons_of_mem _ hx))]
      congr 1
      by_cases h : 128 ≤ b
      · rw [if_pos h, if_pos (by omega)]
      · rw [if_neg h, if_neg (by omega)]
  rw [e2]
  have h2 : ∀ t ∈ (l.map fun b => b / 128), t < 2 := by
    intro t ht
    obtain ⟨b, hb', rfl⟩ := List.mem_map.1 ht
    have := hb b hb'
    omega
  have h8' : (l.map fun b => b / 128).length = 8 := by simpa using h8
  generalize (l.map fun b => b / 128) = t at h2 h8'
  clear e1 e2
  match t, h8' with
  | [a, b, c, d, e, f, g, h], _ =>
    simp only [List.mem_cons, List.not_mem_nil, or_false, forall_eq_or_imp, forall_eq] at h2
    obtain ⟨ha, hb, hc, hd, he, hf, hg, hh⟩ := h2
    have H : ∀ x : Nat, x < 2 → (if decide (x = 1) = true then 1 else 0) = x := by
      intro x hx
      by_cases h : x = 1
      · simp [h]
      · simp [h]; omega
    simp only [bitsOf, H _ ha, H _ hb, H _ hc, H _ hd, H _ he, H _ hf, H _ hg, H _ hh]
    have d1 : ∀ x y : Nat, x < 2 → (x + 2 * y) / 2 = y := by intros; omega
    have d2 : ∀ x y : Nat, x < 2 → (x + 2 * y) % 2 = x := by intros; omega
    have d3 : ∀ x y k : Nat, x < 2 → y < k → x + 2 * y < 2 * k := by intros; omega
    have hl := d3 a _ 128 ha (d3 b _ 64 hb (d3 c _ 32 hc (d3 d _ 16 hd (d3 e _ 8 he (d3 f _ 4 hf (d3 g _ 2 hg (d3 h 0 1 hh (by omega))))))))
    have ht := gather_at _ hl
    simp only [d1 _ _ ha, d1 _ _ hb, d1 _ _ hc, d1 _ _ hd, d1 _ _ he, d1 _ _ hf, d1 _ _ hg, d1 _ _ hh, d2 _ _ ha, d2 _ _ hb, d2 _ _ hc, d2 _ _ hd, d2 _ _ he, d2 _ _ hf, d2 _ _ hg, d2 _ _ hh] at ht
    simpa [wd] using ht
theorem byte_tab : ∀ b : Fin 256, (b.val &&& 127) + 127 < 256 ∧ (((b.val &&& 127) + 127 ||| b.val) ||| 127) < 256 ∧ ((b.val &&& 127) + 127 ||| b.val) < 256 ∧ (((b.val &&& 127) + 127 ||| b.val) ||| 127) + (if b.val = 0 then 128 else 0) = 255 := by decide +kernel
/-- the bytes that are 0, by their highest bits -/
theorem zeros_eq (l : List Nat) (hb : Bt l) (h8 : l.length = 8) :
    ((((wd l &&& 9187201950435737471) + 9187201950435737471) ||| wd l) ||| 9187201950435737471) ≤ 18446744073709551615 ∧ (wd l &&& 9187201950435737471) + 9187201950435737471 < 18446744073709551616 ∧
    18446744073709551615 - ((((wd l &&& 9187201950435737471) + 9187201950435737471) ||| wd l) ||| 9187201950435737471) = wd (l.map fun b => if b = 0 then 128 else 0) := by
  have a1 : wd l &&& 9187201950435737471 = wd (l.map fun b => b &&& 127) := by
    have := wd_op (· &&& ·) rfl and256 127 (by omega) l hb
    rw [h8, wd_rep] at this
    exact this
  have a2 : wd (l.map fun b => b &&& 127) + 9187201950435737471 = wd (l.map fun b => (b &&& 127) + 127) := by
    rw [show (9187201950435737471 : Nat) = wd (l.map fun _ => 127) from (wd_mapc h8 127).symm, wd_add]
  have hlt : ∀ b ∈ l, (b &&& 127) + 127 < 256 ∧ (((b &&& 127) + 127 ||| b) ||| 127) < 256 ∧ ((b &&& 127) + 127 ||| b) < 256 ∧ (((b &&& 127) + 127 ||| b) ||| 127) + (if b = 0 then 128 else 0) = 255 := fun b hb' => byte_tab ⟨b, hb b hb'⟩
  have a3 : wd (l.map fun b => (b &&& 127) + 127) ||| wd l = wd (l.map fun b => (b &&& 127) + 127 ||| b) := by
    have := wd_op2 (· ||| ·) rfl or256 (fun b => (b &&& 127) + 127) (fun b => b) l (fun b hb' => (hlt b hb').1) (fun b h => hb b h)
    rw [map_id'] at this
    exact this
  have a4 : wd (l.map fun b => (b &&& 127) + 127 ||| b) ||| 9187201950435737471 = wd (l.map fun b => ((b &&& 127) + 127 ||| b) ||| 127) := by
    rw [show (9187201950435737471 : Nat) = wd (l.map fun _ => 127) from (wd_mapc h8 127).symm]
    exact wd_op2 (· ||| ·) rfl or256 (fun b => (b &&& 127) + 127 ||| b) (fun _ => 127) l (fun b hb' => (hlt b hb').2.2.1) (fun _ _ => by omega)
  have a5 : wd (l.map fun b => ((b &&& 127) + 127 ||| b) ||| 127) + wd (l.map fun b => if b = 0 then 128 else 0) = 18446744073709551615 := by
    rw [wd_add]
    have e : wd (l.map fun b => (((b &&& 127) + 127 ||| b) ||| 127) + (if b = 0 then 128 else 0)) = wd (l.map fun _ => 255) := wd_congr fun b hb' => (hlt b hb').2.2.2
    rw [e, wd_mapc h8]
  have a6 : wd (l.map fun b => (b &&& 127) + 127) < 18446744073709551616 := wd_lt8 (fun x hx => by
    obtain ⟨b, hb', rfl⟩ := List.mem_map.1 hx
    exact (hlt b hb').1) (by simpa using h8)
  rw [a1, a2, a3, a4]
  exact ⟨by omega, a6, by omega⟩
theorem match_xor (l : List Nat) (hb : Bt l) (h8 : l.length = 8) (h : Nat) (hh : h < 256) : wd l ^^^ (72340172838076673 * h) = wd (l.map fun b => b ^^^ h) := by
  have := wd_op (· ^^^ ·) rfl xor256 h hh l hb
  rw [h8, wd_rep, Nat.mul_comm] at this
  exact this
/-- the slots of a byte -/
theorem match_eq (l : List Nat) (hb : Bt l) (h8 : l.length = 8) (h : Nat) (hh : h < 256) : bitsOf (fun b => decide (128 ≤ b)) ((l.map fun b => b ^^^ h).map fun b => if b = 0 then 128 else 0) = bitsOf (fun b => b == h) l := by
  clear h8
  induction l with
  | nil => rfl
  | cons b r ih =>
    simp only [bitsOf, List.map_cons]
    rw [ih (fun x hx => hb x (List.mem_cons_of_mem _ hx))]
    congr 1
    by_cases e : b = h
    · subst e; simp
    · have : b ^^^ h ≠ 0 := fun e0 => e (Nat.eq_of_testBit_eq fun j => by
        have := congrArg (fun x => Nat.testBit x j) e0
        simpa using this)
      simp [this, e]
/-- the elements of a set, rising -/
def els (s : Nat) : List Nat := (List.range 8).filter fun i => s.testBit i
theorem els_zero : els 0 = [] := by decide
theorem els_next : ∀ s : Fin 256, s.val ≠ 0 → ∃ i, els s.val = i :: els (s.val &&& (s.val - 1)) ∧ i < 8 := by
  intro s hs
  have h : ∀ s : Fin 256, s.val ≠ 0 → (els s.val).head? = some ((els s.val).headD 0) ∧ (els s.val).tail = els (s.val &&& (s.val - 1)) ∧ (els s.val).headD 0 < 8 := by decide +kernel
  obtain ⟨h1, h2, h3⟩ := h s hs
  refine ⟨(els s.val).headD 0, ?_, h3⟩
  cases he : els s.val with
  | nil => rw [he] at h1; simp at h1
  | cons i r => rw [← h2, he]; rfl
theorem els_bits (p : Nat → Bool) (l : List Nat) : els (bitsOf p l) = (List.range 8).filter fun i => (l[i]?.map p).getD false := by
  unfold els
  congr 1
  funext i
  rw [bits_test]
theorem wd_get : ∀ (l : List Nat) (i : Nat), Bt l → wd l / 256 ^ i % 256 = l.getD i 0
  | [], i, _ => by simp [wd]
  | b :: r, 0, h => by
    have := h b (List.mem_cons_self ..)
    simp [wd]; omega
  | b :: r, i + 1, h => by
    have h1 := wd_get r i (fun x hx => h x (List.mem_cons_of_mem _ hx))
    have := h b (List.mem_cons_self ..)
    rw [List.getD_cons_succ, ← h1, wd, Nat.pow_succ, Nat.mul_comm (256 ^ i), ← Nat.div_div_eq_div_mul, show (b + 256 * wd r) / 256 = wd r from by omega]
theorem wd_set : ∀ (l : List Nat) (i c : Nat), i < l.length → wd (l.set i c) + l.getD i 0 * 256 ^ i = wd l + c * 256 ^ i
  | b :: r, 0, c, _ => by simp [wd]; omega
  | b :: r, i + 1, c, h => by
    have := wd_set r i c (by simpa using h)
    simp only [List.set_cons_succ, wd, List.getD_cons_succ, Nat.pow_succ]
    have e1 : r.getD i 0 * (256 ^ i * 256) = 256 * (r.getD i 0 * 256 ^ i) := by rw [← Nat.mul_assoc, Nat.mul_comm 256]
    have e2 : c * (256 ^ i * 256) = 256 * (c * 256 ^ i) := by rw [← Nat.mul_assoc, Nat.mul_comm 256]
    rw [e1, e2]
    omega
end Go.Proofs.YtodledidabdkaaaDoor.V
