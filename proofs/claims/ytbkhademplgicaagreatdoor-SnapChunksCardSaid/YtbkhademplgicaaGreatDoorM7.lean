/- The snapshot layer's Name and Index: the plain law and the walks. No condition but where the library's tables lie. The snapshot layer's Name and Index: walked once each. No condition but where the library's tables lie. The snapshot layer's Index: walked once. No condition but where the library's variables lie. -/
import Derived.Test.YtbkhademplgicaaGreatDoorM4
import Derived.Test.YtbkhademplgicaaGreatDoorIC
import Derived.Test.YtbkhademplgicaaGreatDoorM6
set_option linter.unusedVariables false
set_option linter.unusedSimpArgs false
namespace Go.Proofs.YtbkhademplgicaaGreatDoor
open Go.RowKit
set_option linter.unusedVariables false
set_option linter.unusedSimpArgs false
/-- The library's variables lie. -/
structure Gl (w : World) : Prop where
  e : ∃ ev t fz, w.heap[0]? = some (.cells #[ev] t fz) ∧ (ev = .nilIface ∨ ∃ te pe, ev = .iface te pe)
  p : ∃ t fz, w.heap[2]? = some (.cells (Lib.pow10Tab.map fun z => Value.int .u64 z).toArray t fz)
theorem Gl.kept {S : Nat → Prop} {w w' : World} (h : Gl w) (k : Kp S w w') (h1 : S 0) (h2 : S 2) : Gl w' := by
  obtain ⟨ev, t, fz, e1, e2⟩ := h.e
  obtain ⟨t', fz', e3⟩ := h.p
  exact ⟨⟨ev, t, fz, k.heap e1 h1, e2⟩, ⟨t', fz', k.heap e3 h2⟩⟩
theorem Gl.all {w w' : World} (h : Gl w) (k : Kp All w w') : Gl w' := h.kept k trivial trivial
theorem Gl.tab {w : World} (h : Gl w) : Lib.TabIs Tryz.prog w "internal/strconv.uint64pow10" .u64 Lib.pow10Tab := by
  obtain ⟨t, fz, e⟩ := h.p
  show World.var? _ w _ = _
  unfold World.var?
  rw [show Tryz.prog.globalNamed "internal/strconv.uint64pow10" = some 2 from by kernel_rfl]
  show (match w.heap[2]? with | some (.cells cs _ _) => some cs | _ => none) = _
  rw [e]
theorem Gl.cell {w : World} (h : Gl w) : ∃ ev, w.cell? ⟨0, 0, none⟩ = some ev ∧ (ev = .nilIface ∨ ∃ te pe, ev = .iface te pe) := by
  obtain ⟨ev, t, fz, e1, e2⟩ := h.e
  exact ⟨ev, by rw [blk_cell e1]; rfl, e2⟩
/-! ### The plain law -/
def pre5 : List UInt8 := [115, 110, 97, 112, 45]
def snName (n : Int) : Nm := if n < 1 ∨ 999999999 < n then ⟨#[]⟩ else ⟨(pre5 ++ Lib.itoa n).toArray⟩
def snIndex (s : Nm) : Int × Bool :=
  if pre5.isPrefixOf s.data.toList = true then (if 9 < (s.data.toList.drop 5).length then (0, false) else match Lib.atoiAll (s.data.toList.drop 5) with
    | .ok v => if snName v = s then (v, true) else (0, false)
    | _ => (0, false)) else (0, false)
theorem parse_app : ∀ (l : List UInt8) (acc a : Nat) (c : UInt8), Lib.parseUint10 acc l = .ok a → Lib.parseUint10 acc (l ++ [c]) = Lib.parseUint10 a [c]
  | [], acc, a, c, h => by
    simp only [Lib.parseUint10] at h
    injection h with h
    subst h; rfl
  | x :: l, acc, a, c, h => by
    rw [List.cons_append]
    unfold Lib.parseUint10 at h
    conv => lhs; unfold Lib.parseUint10
    split at h
    · next h1 =>
      rw [if_pos h1]
      split at h
      · cases h
      · next h2 =>
        rw [if_neg h2]
        split at h
        · cases h
        · next h3 =>
          rw [if_neg h3]
          exact parse_app l _ a c h
    · cases h
theorem parse_dec (u : Nat) : u < 1000000000000 → Lib.parseUint10 0 (Lib.decDigits u) = .ok u := by
  induction u using Nat.strongRecOn with
  | _ u ih =>
    intro hu
    by_cases h : u < 10
    · rw [Lib.decDigits_one h]
      have e : (UInt8.ofNat (48 + u)).toNat = 48 + u := by rw [UInt8.toNat_ofNat']; omega
      unfold Lib.parseUint10
      rw [e, if_pos ⟨by omega, by omega⟩, if_neg (by omega), if_neg (by omega)]
      unfold Lib.parseUint10
      congr 1
      omega
    · have h1 := ih (u / 10) (by omega) (by omega)
      rw [Lib.decDigits, dif_neg h, parse_app _ _ _ _ h1]
      have e : (UInt8.ofNat (48 + u % 10)).toNat = 48 + u % 10 := by rw [UInt8.toNat_ofNat']; omega
      unfold Lib.parseUint10
      rw [e, if_pos ⟨by omega, by omega⟩, if_neg (by omega), if_neg (by omega)]
      unfold Lib.parseUint10
      congr 1
      omega
theorem dec_digits (u : Nat) : ∀ c ∈ Lib.decDigits u, 48 ≤ c.toNat ∧ c.toNat ≤ 57 := by
  induction u using Nat.strongRecOn with
  | _ u ih =>
    intro c hc
    by_cases h : u < 10
    · rw [Lib.decDigits_one h] at hc
      obtain rfl := List.mem_singleton.1 hc
      rw [UInt8.toNat_ofNat']; omega
    · rw [Lib.decDigits, dif_neg h] at hc
      rcases List.mem_append.1 hc with hc | hc
      · exact ih (u / 10) (by omega) c hc
      · obtain rfl := List.mem_singleton.1 hc
        rw [UInt8.toNat_ofNat']; omega
theorem dec_ne (u : Nat) : Lib.decDigits u ≠ [] := by
  intro h
  have := Lib.decDigits_length u
  rw [h] at this
  have := Lib.nDigits_pos u
  simp at *
  omega
theorem atoi_dec (u : Nat) (hu : u < 1000000000000) : Lib.atoiAll (Lib.decDigits u) = .ok (u : Int) := by
  have h1 := parse_dec u hu
  have h2 := dec_digits u
  cases hd : Lib.decDigits u with
  | nil => exact absurd hd (dec_ne u)
  | cons c r =>
    rw [hd] at h1 h2
    have hc := h2 c (List.mem_cons_self ..)
    unfold Lib.atoiAll
    simp only
    rw [if_neg (by omega)]
    unfold Lib.parseMag
    rw [if_neg (by simp), h1]
    simp only
    rw [if_neg (by omega), if_neg (by omega), if_neg (by omega)]
theorem dec_len9 (u : Nat) (hu : u ≤ 999999999) : (Lib.decDigits u).length ≤ 9 := by
  rw [Lib.decDigits_length]
  have key : ∀ k u, u < 10 ^ (k + 1) → Lib.nDigits u ≤ k + 1 := by
    intro k
    induction k with
    | zero => intro u hu; rw [Lib.nDigits_small (by simpa using hu)]; omega
    | succ k ih =>
      intro u hu
      by_cases h : u < 10
      · rw [Lib.nDigits_small h]; omega
      · rw [Lib.nDigits_big h]
        have := ih (u / 10) (by rw [Nat.pow_succ] at hu; omega)
        omega
  exact key 8 u (by omega)
theorem snName_eq {n : Int} (h1 : 1 ≤ n) (h2 : n ≤ 999999999) : snName n = ⟨(pre5 ++ Lib.decDigits n.toNat).toArray⟩ := by
  rw [snName, if_neg (by omega), Lib.itoa, if_neg (by omega)]
theorem snIndex_name {n : Int} (h1 : 1 ≤ n) (h2 : n ≤ 999999999) : snIndex (snName n) = (n, true) := by
  have e := snName_eq h1 h2
  have hl := dec_len9 n.toNat (by omega)
  have hp : pre5.isPrefixOf (snName n).data.toList = true := by rw [e]; simp
  have hd : (snName n).data.toList.drop 5 = Lib.decDigits n.toNat := by rw [e]; rfl
  unfold snIndex
  rw [if_pos hp, hd, if_neg (by omega), atoi_dec _ (by omega)]
  simp only
  rw [show ((n.toNat : Nat) : Int) = n from by omega, if_pos rfl]
theorem snName_inj {m n : Int} (h1 : 1 ≤ m) (h2 : m ≤ 999999999) (h3 : 1 ≤ n) (h4 : n ≤ 999999999) (h : snName m = snName n) : m = n := by
  have a := snIndex_name h1 h2
  have b := snIndex_name h3 h4
  rw [h, b] at a
  injection a with a _
  exact a.symm
theorem snIndex_true {s : Nm} {n : Int} (h : snIndex s = (n, true)) : snName n = s ∧ 1 ≤ n ∧ n ≤ 999999999 := by
  unfold snIndex at h
  split at h
  · next hp =>
    split at h
    · injection h with _ h; cases h
    · split at h
      · next v _ =>
        split at h
        · next hv =>
          injection h with h _
          subst h
          refine ⟨hv, ?_⟩
          by_cases hr : v < 1 ∨ 999999999 < v
          · rw [snName, if_pos hr] at hv
            rw [← hv] at hp
            cases hp
          · omega
        · injection h with _ h; cases h
      · injection h with _ h; cases h
  · injection h with _ h; cases h
theorem snName_good {n : Int} (h1 : 1 ≤ n) (h2 : n ≤ 999999999) : goodB (snName n) = true := by
  have hl := dec_len9 n.toNat (by omega)
  have hd := dec_digits n.toNat
  rw [snName_eq h1 h2]
  generalize Lib.decDigits n.toNat = l at hl hd
  have hsz : (⟨(pre5 ++ l).toArray⟩ : ByteArray).size = 5 + l.length := by
    show (pre5 ++ l).toArray.size = _
    rw [List.size_toArray, List.length_append]; rfl
  have hch : ∀ k (hk : k < (⟨(pre5 ++ l).toArray⟩ : ByteArray).size), chr ⟨(pre5 ++ l).toArray⟩ k = (((pre5 ++ l)[k]'(by rw [List.length_append]; rw [hsz] at hk; exact hk)).toNat : Int) := by
    intro k hk
    rw [chr_at hk]; rfl
  refine good_true (by omega) (by omega) ?_ ?_ fun k hk => ?_
  · rw [hch 0 (by omega)]; show (97 : Int) ≤ (((115 : UInt8).toNat : Nat) : Int); decide
  · rw [hch 0 (by omega)]; show (((115 : UInt8).toNat : Nat) : Int) ≤ 122; decide
  · rw [hch k hk]
    by_cases h5 : k < 5
    · have hk5 : k = 0 ∨ k = 1 ∨ k = 2 ∨ k = 3 ∨ k = 4 := by omega
      rcases hk5 with rfl | rfl | rfl | rfl | rfl
      · show okc (((115 : UInt8).toNat : Nat) : Int) = true; decide
      · show okc (((110 : UInt8).toNat : Nat) : Int) = true; decide
      · show okc (((97 : UInt8).toNat : Nat) : Int) = true; decide
      · show okc (((112 : UInt8).toNat : Nat) : Int) = true; decide
      · show okc (((45 : UInt8).toNat : Nat) : Int) = true; decide
    · have hm : (pre5 ++ l)[k]'(by rw [List.length_append]; rw [hsz] at hk; exact hk) ∈ l := by
        rw [List.getElem_append_right (by show 5 ≤ k; omega)]
        exact List.getElem_mem _
      have := hd _ hm
      exact okc_b (by omega) (by omega)
end Go.Proofs.YtbkhademplgicaaGreatDoor

namespace Go.Proofs.YtbkhademplgicaaGreatDoor
open Go.RowKit
set_option linter.unusedVariables false
set_option linter.unusedSimpArgs false
theorem kp_grow (w : World) (k : Nat) (os : Array Obj) : Kp All w (Sort.grow (w.drewN k) os) := by
  refine ⟨rfl, rfl, rfl, ?_, fun b hb _ => ?_⟩
  · show w.heap.size ≤ (w.heap ++ os).size
    simp
  · show (w.heap ++ os)[b]? = w.heap[b]?
    rw [Array.getElem?_append_left hb]
theorem kp_bytes (w : World) (t : TypeId) (s : ByteArray) : Kp All w (Lib.bytesWorld w t s) := ⟨rfl, rfl, rfl, by rw [Lib.bytesWorld_size]; omega, fun b hb _ => Lib.bytesWorld_at_old w t s b hb⟩
theorem itoa_at (n : Int) (h0 : -9223372036854775808 ≤ n) (h1 : n ≤ 9223372036854775807) (w : World) (hg : Gl w) :
    Calls Tryz.prog 50 #[.int .i64 n] w fun e w' => e = .returned (.string ⟨(Lib.itoa n).toArray⟩) ∧ Kp All w w' := by
  have h : Calls Tryz.prog 50 #[.int .i64 n] w fun e w' => e = .returned (.string ⟨(Lib.itoa n).toArray⟩) ∧ ∃ k os, w' = Sort.grow (w.drewN k) os := Any.strconv_Itoa Tryz.itoaL n h0 h1 w hg.tab
  exact h.mono fun e w' h => ⟨h.1, by obtain ⟨k, os, rfl⟩ := h.2; exact kp_grow _ _ _⟩
set_option maxRecDepth 100000 in
theorem name_any (n : Int) (h0 : -9223372036854775808 ≤ n) (h1 : n ≤ 9223372036854775807) (w : World) (hg : Gl w) :
    Calls Tryz.prog 17 #[.int .i64 n] w fun e w' => e = .returned (.string (snName n)) ∧ Kp All w w' := by
  have HG := hid hg
  clear hg
  by_cases a : n < 1
  · have d1 : decide (n < 1) = true := decide_eq_true a
    have HN := hid (show snName n = ⟨#[]⟩ by rw [snName, if_pos (.inl a)])
    rw [HN.out]
    go_enter Tryz.func17, Tryz.ntmps17
    go_wp2_with fail
    go_ret
    exact ⟨rfl, Kp.refl _ _⟩
  have d1 : decide (n < 1) = false := decide_eq_false a
  by_cases b : 999999999 < n
  · have d2 : decide (999999999 < n) = true := decide_eq_true b
    have HN := hid (show snName n = ⟨#[]⟩ by rw [snName, if_pos (.inr b)])
    rw [HN.out]
    go_enter Tryz.func17, Tryz.ntmps17
    go_wp2_with fail
    go_ret
    exact ⟨rfl, Kp.refl _ _⟩
  have d2 : decide (999999999 < n) = false := decide_eq_false b
  have HN := hid (show snName n = ⟨#[115, 110, 97, 112, 45]⟩ ++ ⟨(Lib.itoa n).toArray⟩ by
    rw [snName, if_neg (by omega)]
    apply ByteArray.ext
    rw [ByteArray.data_append]
    simp [pre5])
  rw [HN.out]
  have hlen : (Lib.itoa n).length ≤ 9 := by
    rw [Lib.itoa, if_neg (by omega)]
    exact dec_len9 n.toNat (by omega)
  have hsz : (5 : Nat) + (Lib.itoa n).length ≤ 9223372036854775807 := by omega
  have hsz2 : ¬ (9223372036854775807 < 5 + (Lib.itoa n).length) := by omega
  go_enter Tryz.func17, Tryz.ntmps17
  go_wp2_with fail
  refine (itoa_at n h0 h1 _ HG.out).mono ?_
  rintro e w1 ⟨rfl, hk1⟩
  have HK1 := hid hk1
  clear hk1
  go_wp2_with fail
  go_ret
  exact ⟨rfl, HK1.out⟩
end Go.Proofs.YtbkhademplgicaaGreatDoor

namespace Go.Proofs.YtbkhademplgicaaGreatDoor
open Go.RowKit
set_option linter.unusedVariables false
set_option linter.unusedSimpArgs false
theorem sx_ne {s t : Nm} (h : s ≠ t) : ¬ s.toList = t.toList := fun e => h (by
  rw [ByteArray.toList_eq, ByteArray.toList_eq] at e
  cases s; cases t
  simp only [Array.toList_inj] at e
  subst e; rfl)
theorem parse_small : ∀ (l : List UInt8) (acc : Nat), (acc + 1) * 10 ^ l.length ≤ 1000000000000000000 → Lib.parseUint10 acc l ≠ .range ∧ ∀ u, Lib.parseUint10 acc l = .ok u → u < (acc + 1) * 10 ^ l.length
  | [], acc, h => by
    simp only [Lib.parseUint10]
    refine ⟨by simp, fun u hu => ?_⟩
    injection hu with hu
    simp; omega
  | c :: r, acc, h => by
    unfold Lib.parseUint10
    by_cases h1 : 48 ≤ c.toNat ∧ c.toNat ≤ 57
    · have hp : 0 < 10 ^ r.length := Nat.pow_pos (by omega)
      have he : (acc + 1) * 10 ^ (c :: r).length = (acc * 10 + 10) * 10 ^ r.length := by
        rw [List.length_cons, Nat.pow_succ, ← Nat.mul_assoc, Nat.mul_right_comm, Nat.add_mul]
      rw [he] at h ⊢
      have hle : (acc * 10 + (c.toNat - 48) + 1) * 10 ^ r.length ≤ (acc * 10 + 10) * 10 ^ r.length := Nat.mul_le_mul_right _ (by omega)
      have hb : acc * 10 + 10 ≤ 1000000000000000000 := Nat.le_trans (Nat.le_mul_of_pos_right _ hp) h
      have ih := parse_small r (acc * 10 + (c.toNat - 48)) (by omega)
      rw [if_pos h1, if_neg (by omega), if_neg (by omega)]
      exact ⟨ih.1, fun u hu => Nat.lt_of_lt_of_le (ih.2 u hu) hle⟩
    · rw [if_neg h1]
      exact ⟨by simp, fun u hu => by cases hu⟩
theorem atoi_small (l : List UInt8) (hl : l.length ≤ 9) : Lib.atoiAll l ≠ .range ∧ ∀ v, Lib.atoiAll l = .ok v → -1000000000000000000 ≤ v ∧ v ≤ 1000000000000000000 := by
  cases l with
  | nil => exact ⟨by simp [Lib.atoiAll], fun v h => by simp [Lib.atoiAll] at h⟩
  | cons c r =>
    have key : ∀ m : List UInt8, m.length ≤ 9 → Lib.parseMag m ≠ .range ∧ ∀ u, Lib.parseMag m = .ok u → u < 1000000000000000000 := by
      intro m hm
      unfold Lib.parseMag
      split
      · exact ⟨by simp, fun u h => by cases h⟩
      · have hq : 10 ^ m.length ≤ 10 ^ 9 := Nat.pow_le_pow_right (by omega) hm
        have := parse_small m 0 (by omega)
        exact ⟨this.1, fun u hu => by have := this.2 u hu; omega⟩
    rw [List.length_cons] at hl
    have k := key (if c.toNat = 43 ∨ c.toNat = 45 then r else c :: r) (by split <;> (try rw [List.length_cons]) <;> omega)
    unfold Lib.atoiAll
    simp only
    cases hm : Lib.parseMag (if c.toNat = 43 ∨ c.toNat = 45 then r else c :: r) with
    | «syntax» => exact ⟨by simp, fun v h => by cases h⟩
    | range => exact absurd hm k.1
    | ok u =>
      have hu := k.2 u hm
      simp only
      rw [if_neg (by omega), if_neg (by omega)]
      refine ⟨by simp, fun v h => ?_⟩
      injection h with h
      subst h
      split <;> omega
theorem cut_any (s p : ByteArray) (w : World) : Calls Tryz.prog 46 #[.string s, .string p] w fun e w' => e = .returned (.tuple #[.string ⟨(Lib.trimPrefix s.data.toList p.data.toList).toArray⟩, .bool (Lib.hasPrefix s.data.toList p.data.toList)]) ∧ w' = w := Any.strings_CutPrefix Tryz.cutL s p w
theorem atoi_good (s : ByteArray) (hmax : s.size ≤ 9) (v : Int) (h : Lib.atoiAll s.data.toList = .ok v) (w : World) :
    Calls Tryz.prog 47 #[.string s] w fun e w' => e = .returned (.tuple #[.int .i64 v, .nilIface]) ∧ Kp All w w' :=
  (Any.strconv_Atoi_ok Tryz.atoiL s (by omega) v h w).mono fun e w' h => ⟨h.1, by
    obtain rfl | ⟨t, rfl⟩ := h.2
    · exact Kp.refl _ _
    · exact kp_bytes _ _ _⟩
theorem atoi_bad (s : ByteArray) (hmax : s.size ≤ 9) (h : Lib.atoiAll s.data.toList = .«syntax») (w : World) (hg : Gl w) :
    Calls Tryz.prog 47 #[.string s] w fun e w' => (∃ N, e = .returned (.tuple #[.int .i64 0, .iface 154 (.pointer (some ⟨N, 0, none⟩))])) ∧ Kp All w w' := by
  obtain ⟨ev, h1, h2⟩ := hg.cell
  exact (Any.strconv_Atoi_syntax Tryz.atoiL s (by omega) h ev w h1 h2).mono fun e w' h => by
    obtain ⟨N, e1, _, _, hb⟩ := h
    exact ⟨⟨N, e1⟩, ⟨hb.os, hb.tape, hb.output, hb.size, fun b hb' _ => hb.block b hb'⟩⟩
set_option maxRecDepth 100000 in
theorem index_any (s : Nm) (w : World) (hg : Gl w) :
    Calls Tryz.prog 14 #[.string s] w fun e w' => e = .returned (.tuple #[.int .i64 (snIndex s).1, .bool (snIndex s).2]) ∧ Kp All w w' := by
  have HG := hid hg
  clear hg
  have C := cut_any s ⟨#[115, 110, 97, 112, 45]⟩ w
  rw [show ((⟨#[115, 110, 97, 112, 45]⟩ : ByteArray).data.toList) = pre5 from rfl] at C
  by_cases hp : Lib.hasPrefix s.data.toList pre5 = true
  · rw [Lib.trimPrefix, if_pos hp, hp, show pre5.length = 5 from rfl] at C
    have hp' : pre5.isPrefixOf s.data.toList = true := hp
    generalize hl : s.data.toList.drop 5 = l at C
    by_cases a : 9 < l.length
    · have HS := hid (show snIndex s = (0, false) by unfold snIndex; rw [if_pos hp', hl, if_pos a])
      rw [HS.out]
      have ai : decide ((9 : Int) < (l.length : Int)) = true := decide_eq_true (by omega)
      go_enter Tryz.func14, Tryz.ntmps14
      go_wp2_with fail
      refine C.mono ?_
      rintro e w1 ⟨rfl, rfl⟩
      go_wp2_with fail
      exact bodyPost_ret (v := .tuple #[.int .i64 0, .bool false]) (by simp [results, Tryz.results14, go_sem]) rfl ⟨rfl, Kp.refl _ _⟩
    have ai : decide ((9 : Int) < (l.length : Int)) = false := decide_eq_false (by omega)
    have hsz : (⟨l.toArray⟩ : ByteArray).size ≤ 9 := by
      show l.toArray.size ≤ 9
      rw [List.size_toArray]; omega
    have hsm := atoi_small l (by omega)
    cases hv : Lib.atoiAll l with
    | range => exact absurd hv hsm.1
    | «syntax» =>
      have HS := hid (show snIndex s = (0, false) by unfold snIndex; rw [if_pos hp', hl, if_neg a, hv])
      rw [HS.out]
      have HC := hid (atoi_bad ⟨l.toArray⟩ hsz (by simpa using hv) w HG.out)
      clear hv hsm hsz
      go_enter Tryz.func14, Tryz.ntmps14
      go_wp2_with fail
      refine C.mono ?_
      rintro e w1 ⟨rfl, rfl⟩
      go_wp2_with fail
      refine HC.out.mono ?_
      rintro e w2 ⟨⟨N, rfl⟩, hk2⟩
      have HK2 := hid hk2
      clear hk2
      go_wp2_with fail
      exact bodyPost_ret (v := .tuple #[.int .i64 0, .bool false]) (by simp [results, Tryz.results14, go_sem]) rfl ⟨rfl, HK2.out⟩
    | ok v =>
      have hb := hsm.2 v hv
      have HC := hid (atoi_good ⟨l.toArray⟩ hsz v (by simpa using hv) w)
      clear hsm hsz
      by_cases hn : snName v = s
      · have HS := hid (show snIndex s = (v, true) by unfold snIndex; rw [if_pos hp', hl, if_neg a, hv]; simp only; rw [if_pos hn])
        rw [HS.out]
        clear hv
        go_enter Tryz.func14, Tryz.ntmps14
        go_wp2_with fail
        refine C.mono ?_
        rintro e w1 ⟨rfl, rfl⟩
        go_wp2_with fail
        refine HC.out.mono ?_
        rintro e w2 ⟨rfl, hk2⟩
        have HK2 := hid hk2
        clear hk2
        have HCN := hid (name_any v (by omega) (by omega) w2 (HG.out.all HK2.out))
        go_wp2_with fail
        refine HCN.out.mono ?_
        rintro e w3 ⟨rfl, hk3⟩
        have HK3 := hid hk3
        clear hk3
        rw [hn]
        go_wp2_with fail
        exact bodyPost_ret (v := .tuple #[.int .i64 v, .bool true]) (by simp [results, Tryz.results14, go_sem]) rfl ⟨rfl, HK2.out.trans HK3.out⟩
      · have HS := hid (show snIndex s = (0, false) by unfold snIndex; rw [if_pos hp', hl, if_neg a, hv]; simp only; rw [if_neg hn])
        rw [HS.out]
        clear hv
        have hne : (ByteArray.toList (snName v) == ByteArray.toList s) = false := beq_eq_false_iff_ne.2 (sx_ne hn)
        go_enter Tryz.func14, Tryz.ntmps14
        go_wp2_with fail
        refine C.mono ?_
        rintro e w1 ⟨rfl, rfl⟩
        go_wp2_with fail
        refine HC.out.mono ?_
        rintro e w2 ⟨rfl, hk2⟩
        have HK2 := hid hk2
        clear hk2
        have HCN := hid (name_any v (by omega) (by omega) w2 (HG.out.all HK2.out))
        go_wp2_with fail
        refine HCN.out.mono ?_
        rintro e w3 ⟨rfl, hk3⟩
        have HK3 := hid hk3
        clear hk3
        go_wp2_with fail
        exact bodyPost_ret (v := .tuple #[.int .i64 0, .bool false]) (by simp [results, Tryz.results14, go_sem]) rfl ⟨rfl, HK2.out.trans HK3.out⟩
  · have hp := (Bool.not_eq_true _).mp hp
    have hp' : pre5.isPrefixOf s.data.toList = false := hp
    have HS := hid (show snIndex s = (0, false) by unfold snIndex; rw [if_neg (by rw [hp']; simp)])
    rw [Lib.trimPrefix, hp, if_neg (by simp)] at C
    rw [HS.out]
    go_enter Tryz.func14, Tryz.ntmps14
    go_wp2_with fail
    refine C.mono ?_
    rintro e w1 ⟨rfl, rfl⟩
    go_wp2_with fail
    exact bodyPost_ret (v := .tuple #[.int .i64 0, .bool false]) (by simp [results, Tryz.results14, go_sem]) rfl ⟨rfl, Kp.refl _ _⟩
end Go.Proofs.YtbkhademplgicaaGreatDoor
