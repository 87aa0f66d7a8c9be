/- What reading a reply makes of any bytes (plain), and the way back of a reply's own bytes; the Reader's contracts over a state. No condition. -/
import Derived.Test.YtkipijdbkkcioaaCY
namespace Go.Proofs.Ytkipijdbkkcioaa
open Go.RowKit
set_option linter.unusedVariables false
set_option linter.unusedSimpArgs false
abbrev Sx := By × Bool
def nV (s : Sx) : Nat := if s.2 = true ∨ (getP s.1).2 = 0 then 0 else (getP s.1).1
def iV (s : Sx) : Int := if s.2 = true ∨ (getP s.1).2 = 0 then 0 else zagP (getP s.1).1
def nX (s : Sx) : Sx := rdX s.1 s.2 (getP s.1).2
def tV (s : Sx) : ByteArray := if s.2 = true ∨ (getT s.1).2 = 0 then ⟨#[]⟩ else (getT s.1).1
def tX (s : Sx) : Sx := rdX s.1 s.2 (getT s.1).2
def bV (s : Sx) : Bool := if s.2 = true ∨ (getB s.1).2 = 0 then false else (getB s.1).1
def bX (s : Sx) : Sx := rdX s.1 s.2 (getB s.1).2
abbrev Rs (q : Nat) (s : Sx) (w : World) : Prop := Rg q s.1 s.2 w
theorem num_s (q : Nat) (s : Sx) (w : World) (h : Rs q s w) : Calls Try.prog 57 #[.pointer (some ⟨q, 0, none⟩)] w fun e w' => e = .returned (.int .u64 (nV s)) ∧ Rs q (nX s) w' ∧ Kp (fun k => k ≠ q) w w' := by
  refine (num_any q s.1 s.2 w h).mono ?_
  rintro e w' ⟨rfl, h1, h2⟩
  exact ⟨by rw [nV]; split <;> rfl, h1, h2⟩
theorem int_s (q : Nat) (s : Sx) (w : World) (h : Rs q s w) : Calls Try.prog 42 #[.pointer (some ⟨q, 0, none⟩)] w fun e w' => e = .returned (.int .i64 (iV s)) ∧ Rs q (nX s) w' ∧ Kp (fun k => k ≠ q) w w' := by
  refine (rint_any q s.1 s.2 w h).mono ?_
  rintro e w' ⟨rfl, h1, h2⟩
  exact ⟨by rw [iV]; split <;> rfl, h1, h2⟩
theorem text_s (q : Nat) (s : Sx) (w : World) (h : Rs q s w) : Calls Try.prog 44 #[.pointer (some ⟨q, 0, none⟩)] w fun e w' => e = .returned (.string (tV s)) ∧ Rs q (tX s) w' ∧ Kp (fun k => k ≠ q) w w' := by
  refine (rtext_any q s.1 s.2 w h).mono ?_
  rintro e w' ⟨rfl, h1, h2⟩
  exact ⟨by rw [tV]; split <;> rfl, h1, h2⟩
theorem bool_s (q : Nat) (s : Sx) (w : World) (h : Rs q s w) : Calls Try.prog 59 #[.pointer (some ⟨q, 0, none⟩)] w fun e w' => e = .returned (.bool (bV s)) ∧ Rs q (bX s) w' ∧ Kp (fun k => k ≠ q) w w' := by
  refine (rbool_any q s.1 s.2 w h).mono ?_
  rintro e w' ⟨rfl, h1, h2⟩
  exact ⟨by rw [bV]; split <;> rfl, h1, h2⟩
/-- The pairs. -/
def pairsP : Nat → Sx → List (ByteArray × ByteArray) → List (ByteArray × ByteArray) × Sx
  | 0, s, acc => (acc, s)
  | n + 1, s, acc => if s.2 = true then (acc, s) else pairsP n (tX (tX s)) (acc ++ [(tV s, tV (tX s))])
def endP (s : Sx) : Bool := !s.2 && s.1.length == 0
/-- What reading a reply makes of bytes. -/
def readP (xs : By) : Option RD :=
  let s0 : Sx := (xs, false)
  let q := pairsP (nV (tX (bX (nX (nX s0))))) (nX (tX (bX (nX (nX s0))))) []
  if endP q.2 = true then some ⟨iV s0, bV (nX (nX s0)), tV (bX (nX (nX s0))), iV (nX s0), q.1⟩ else none
theorem nV_lt (s : Sx) : nV s < 2 ^ 64 := by
  have := getP_lt s.1
  unfold nV
  split <;> omega
theorem len_rdX (xs : By) (b : Bool) (n : Nat) : (rdX xs b n).2 = true ∨ (rdX xs b n).1.length + n = xs.length ∧ 0 < n ∨ xs.length < n := by
  unfold rdX
  split
  · exact .inl rfl
  · by_cases h : n ≤ xs.length
    · refine .inr (.inl ⟨?_, by omega⟩)
      simp only [List.length_drop]; omega
    · exact .inr (.inr (by omega))
theorem tX_len (s : Sx) : (tX s).2 = true ∨ (tX s).1.length + 1 ≤ s.1.length := by
  have := getT_le s.1
  rcases len_rdX s.1 s.2 (getT s.1).2 with h | h | h
  · exact .inl h
  · refine .inr ?_
    unfold tX
    omega
  · omega
theorem rdX_le (xs : By) (b : Bool) (n : Nat) : (rdX xs b n).1.length ≤ xs.length := by
  unfold rdX
  split
  · simp
  · simp only [List.length_drop]; omega
theorem rdX_wrong (xs : By) (b : Bool) (n : Nat) (h : b = true) : (rdX xs b n).2 = true := by rw [rdX, if_pos (Or.inl h)]
/-! The way back -/
theorem nV_enc (u : Nat) (hu : u < 2 ^ 64) (r : By) : nV (enc u ++ r, false) = u ∧ nX (enc u ++ r, false) = (r, false) := by
  have h := getP_enc u hu r
  have hn : ¬ (false = true ∨ beh u + 1 = 0) := by simp
  rw [nV, nX, rdX, h]
  simp only
  rw [if_neg hn, if_neg hn, drop_enc]
  exact ⟨rfl, rfl⟩
theorem iV_enc (n : Int) (h1 : -9223372036854775808 ≤ n) (h2 : n ≤ 9223372036854775807) (r : By) : iV (encZg n ++ r, false) = n ∧ nX (encZg n ++ r, false) = (r, false) := by
  have hz := zig_lt n h1 h2
  have h := getP_enc (zig n) hz r
  have hn : ¬ (false = true ∨ beh (zig n) + 1 = 0) := by simp
  refine ⟨?_, (nV_enc (zig n) hz r).2⟩
  rw [iV, encZg, h]
  simp only
  rw [if_neg hn, zag_zig n h1 h2]
theorem encText_pos (s : ByteArray) : (encText s).length ≠ 0 := by
  simp only [encText, List.length_append, enc_len]; omega
theorem tV_enc (t : ByteArray) (ht : t.size < 2 ^ 64) (r : By) : tV (encText t ++ r, false) = t ∧ tX (encText t ++ r, false) = (r, false) := by
  have h := getT_enc t r ht
  have hn : ¬ (false = true ∨ (encText t).length = 0) := by rintro (h | h); exact absurd h (by simp); exact encText_pos t h
  rw [tV, tX, rdX, h]
  simp only
  rw [if_neg hn, if_neg hn, List.drop_left]
  exact ⟨rfl, rfl⟩
theorem bV_enc (b : Bool) (r : By) : bV (encBool b ++ r, false) = b ∧ bX (encBool b ++ r, false) = (r, false) := by
  have h := getB_enc b r
  rw [bV, bX, rdX, h]
  simp only
  rw [if_neg (by simp), if_neg (by simp)]
  exact ⟨rfl, rfl⟩
theorem pairsP_enc (ps acc : List (ByteArray × ByteArray)) (hs : ∀ p ∈ ps, p.1.size < 2 ^ 64 ∧ p.2.size < 2 ^ 64) : pairsP ps.length (encPairs ps, false) acc = (acc ++ ps, ([], false)) := by
  induction ps generalizing acc with
  | nil => simp [pairsP, encPairs]
  | cons p ps ih =>
    obtain ⟨h1, h2⟩ := hs p (List.mem_cons_self ..)
    have e : encPairs (p :: ps) = encText p.1 ++ (encText p.2 ++ encPairs ps) := by simp [encPairs, List.flatMap_cons]
    obtain ⟨a1, a2⟩ := tV_enc p.1 h1 (encText p.2 ++ encPairs ps)
    obtain ⟨b1, b2⟩ := tV_enc p.2 h2 (encPairs ps)
    rw [List.length_cons, pairsP, e, a1, a2, b1, b2, ih _ fun p hp => hs p (List.mem_cons_of_mem _ hp)]
    simp
theorem readP_enc (r : RD) (hr : RDok r) (hv : r.val.size < 2 ^ 64) (hs : ∀ p ∈ r.pairs, p.1.size < 2 ^ 64 ∧ p.2.size < 2 ^ 64) : readP (encReply r) = some r := by
  obtain ⟨e1, e2, s1, s2, len, n⟩ := hr
  have e : encReply r = encZg r.err ++ (encZg r.sess ++ (encBool r.found ++ (encText r.val ++ (enc r.pairs.length ++ encPairs r.pairs)))) := by simp only [encReply, encHead, List.append_assoc]
  obtain ⟨a1, a2⟩ := iV_enc r.err e1 e2 (encZg r.sess ++ (encBool r.found ++ (encText r.val ++ (enc r.pairs.length ++ encPairs r.pairs))))
  obtain ⟨b1, b2⟩ := iV_enc r.sess s1 s2 (encBool r.found ++ (encText r.val ++ (enc r.pairs.length ++ encPairs r.pairs)))
  obtain ⟨c1, c2⟩ := bV_enc r.found (encText r.val ++ (enc r.pairs.length ++ encPairs r.pairs))
  obtain ⟨d1, d2⟩ := tV_enc r.val hv (enc r.pairs.length ++ encPairs r.pairs)
  obtain ⟨g1, g2⟩ := nV_enc r.pairs.length (by omega) (encPairs r.pairs)
  have hp := pairsP_enc r.pairs [] hs
  unfold readP
  simp only
  rw [e, a1, a2, b1, b2, c1, c2, d1, d2, g1, g2, hp]
  rfl
end Go.Proofs.Ytkipijdbkkcioaa
