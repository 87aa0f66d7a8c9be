/- SipHash-2-4: plain words, with no program in sight. No condition. -/
import Derived.Test.YtodledidabdkaaaDoorVA
namespace Go.Proofs.YtodledidabdkaaaDoor.V
set_option linter.unusedVariables false
set_option linter.unusedSimpArgs false
/-- turned to the left -/
def rl (x r : Nat) : Nat := (x * 2 ^ r % 18446744073709551616) ||| (x / 2 ^ (64 - r))
def halfA (a b : Nat) : Nat := (a + b) % 18446744073709551616
def halfB (a b r : Nat) : Nat := rl b r ^^^ halfA a b
structure V4 where
  a : Nat
  b : Nat
  c : Nat
  d : Nat
def V4.ok (v : V4) : Prop := v.a < 18446744073709551616 ∧ v.b < 18446744073709551616 ∧ v.c < 18446744073709551616 ∧ v.d < 18446744073709551616
def roundP (v : V4) : V4 :=
  let a1 := halfA v.a v.b
  let b1 := halfB v.a v.b 13
  let a2 := rl a1 32
  let c1 := halfA v.c v.d
  let d1 := halfB v.c v.d 16
  let a3 := halfA a2 d1
  let d2 := halfB a2 d1 21
  let c2 := halfA c1 b1
  let b2 := halfB c1 b1 17
  ⟨a3, b2, rl c2 32, d2⟩
theorem rl_lt {x r : Nat} (hx : x < 18446744073709551616) : rl x r < 18446744073709551616 := Nat.or_lt_two_pow (n := 64) (Nat.mod_lt _ (by decide)) (Nat.lt_of_le_of_lt (Nat.div_le_self _ _) hx)
theorem halfA_lt (a b : Nat) : halfA a b < 18446744073709551616 := Nat.mod_lt _ (by decide)
theorem halfB_lt {a b r : Nat} (hb : b < 18446744073709551616) : halfB a b r < 18446744073709551616 := Nat.xor_lt_two_pow (n := 64) (rl_lt hb) (halfA_lt a b)
theorem round_ok {v : V4} (h : v.ok) : (roundP v).ok := by
  obtain ⟨h1, h2, h3, h4⟩ := h
  exact ⟨halfA_lt _ _, halfB_lt (halfB_lt h2), rl_lt (halfA_lt _ _), halfB_lt (halfB_lt h4)⟩
/-- a word goes in -/
def takeP (v : V4) (m : Nat) : V4 :=
  let u := roundP (roundP { v with d := v.d ^^^ m })
  { u with a := u.a ^^^ m }
theorem xor_lt64 {a b : Nat} (ha : a < 18446744073709551616) (hb : b < 18446744073709551616) : a ^^^ b < 18446744073709551616 := Nat.xor_lt_two_pow (n := 64) ha hb
theorem take_ok {v : V4} (h : v.ok) {m : Nat} (hm : m < 18446744073709551616) : (takeP v m).ok := by
  have h1 : V4.ok { v with d := v.d ^^^ m } := ⟨h.1, h.2.1, h.2.2.1, xor_lt64 h.2.2.2 hm⟩
  have h2 := round_ok (round_ok h1)
  exact ⟨xor_lt64 h2.1 hm, h2.2.1, h2.2.2.1, h2.2.2.2⟩
def natsB (l : List UInt8) : List Nat := l.map fun x => x.toNat
theorem bt_natsB (l : List UInt8) : Bt (natsB l) := by
  intro b hb
  obtain ⟨x, _, rfl⟩ := List.mem_map.1 hb
  exact x.toNat_lt
def wordP (l : List UInt8) : Nat := wd (natsB l)
theorem word_lt {l : List UInt8} (h : l.length ≤ 8) : wordP l < 18446744073709551616 := by
  have h1 := wd_lt (natsB l) (bt_natsB l)
  have h2 : 256 ^ (natsB l).length ≤ 256 ^ 8 := Nat.pow_le_pow_right (by omega) (by simpa [natsB] using h)
  exact Nat.lt_of_lt_of_le h1 h2
/-- the whole words -/
def eatP (v : V4) (l : List UInt8) : V4 × List UInt8 := if h : 8 ≤ l.length then eatP (takeP v (wordP (l.take 8))) (l.drop 8) else (v, l)
  termination_by l.length
  decreasing_by simp; omega
def lastM (l : List UInt8) (n : Nat) : Nat := wordP l ||| (n * 72057594037927936 % 18446744073709551616)
def beginP (k0 k1 : Nat) : V4 := ⟨k0 ^^^ 8317987319222330741, k1 ^^^ 7237128888997146477, k0 ^^^ 7816392313619706465, k1 ^^^ 8387220255154660723⟩
def itR (f : V4 → V4) : Nat → V4 → V4
  | 0, v => v
  | k + 1, v => itR f k (f v)
theorem it_ok {f : V4 → V4} (hf : ∀ v, v.ok → (f v).ok) (k : Nat) : ∀ (v : V4), v.ok → (itR f k v).ok := by
  induction k with
  | zero => intro v h; exact h
  | succ k ih =>
    intro v h
    rw [itR]
    exact ih _ (hf v h)
def endP (v : V4) : Nat := (itR roundP 4 ⟨v.a, v.b, v.c ^^^ 255, v.d⟩).a ^^^ (itR roundP 4 ⟨v.a, v.b, v.c ^^^ 255, v.d⟩).b ^^^ (itR roundP 4 ⟨v.a, v.b, v.c ^^^ 255, v.d⟩).c ^^^ (itR roundP 4 ⟨v.a, v.b, v.c ^^^ 255, v.d⟩).d
def sipP (k0 k1 : Nat) (s : ByteArray) : Nat :=
  let x := eatP (beginP k0 k1) s.data.toList
  endP (takeP x.1 (lastM x.2 s.data.toList.length))
theorem begin_ok {k0 k1 : Nat} (h0 : k0 < 18446744073709551616) (h1 : k1 < 18446744073709551616) : (beginP k0 k1).ok := ⟨xor_lt64 h0 (by decide), xor_lt64 h1 (by decide), xor_lt64 h0 (by decide), xor_lt64 h1 (by decide)⟩
theorem eat_ok {v : V4} (h : v.ok) (l : List UInt8) : (eatP v l).1.ok ∧ (eatP v l).2.length < 8 := by
  induction hn : l.length using Nat.strongRecOn generalizing v l with
  | _ n ih =>
    rw [eatP]
    split
    · rename_i h8
      exact ih (l.drop 8).length (by simp; omega) (take_ok h (word_lt (by simp; omega))) _ rfl
    · exact ⟨h, by simp only; omega⟩
theorem last_lt {l : List UInt8} {n : Nat} (h : l.length < 8) : lastM l n < 18446744073709551616 := Nat.or_lt_two_pow (n := 64) (word_lt (by omega)) (Nat.mod_lt _ (by decide))
theorem end_lt {v : V4} (h : v.ok) : endP v < 18446744073709551616 := by
  have h1 : V4.ok ⟨v.a, v.b, v.c ^^^ 255, v.d⟩ := ⟨h.1, h.2.1, xor_lt64 h.2.2.1 (by decide), h.2.2.2⟩
  have h2 := it_ok (fun v h => round_ok h) 4 _ h1
  exact xor_lt64 (xor_lt64 (xor_lt64 h2.1 h2.2.1) h2.2.2.1) h2.2.2.2
theorem sip_lt {k0 k1 : Nat} (h0 : k0 < 18446744073709551616) (h1 : k1 < 18446744073709551616) (s : ByteArray) : sipP k0 k1 s < 18446744073709551616 := by
  obtain ⟨e1, e2⟩ := eat_ok (begin_ok h0 h1) s.data.toList
  exact end_lt (take_ok e1 (last_lt e2))
end Go.Proofs.YtodledidabdkaaaDoor.V
