/- DiskFails: the states of the disk, in plain Lean, and the law's walk. No condition but that the bytes lie as they were given. -/
import Derived.Test.YtdlbccjimdghkaaEN
import Derived.Test.YtdlbccjimdghkaaEE
namespace Go.Proofs.Ytdlbccjimdghkaa
open Go.RowKit
set_option linter.unusedVariables false
set_option linter.unusedSimpArgs false
/-- behind i writes -/
def FS (q : Nat) (k : Int) (d : By) (i : Nat) : DS := ⟨10000, false, 1 + i, 1 + q - i, k, [(na, [])], List.replicate i (na, d)⟩
def FC (q : Nat) (k : Int) (d : By) : DS := ⟨10000, true, 1 + q + 1, 0, k, settleF [(na, [])] (List.replicate q (na, d)) k.toNat, []⟩
theorem f_create : creErr ⟨10000, false, 0, 0, 0, [], []⟩ na = 0 ∧ creD ⟨10000, false, 0, 0, 0, [], []⟩ na = ⟨10000, false, 1, 0, 0, [(na, [])], []⟩ := ⟨by kernel_rfl, by kernel_rfl⟩
theorem f_arm (q : Nat) (k : Int) (d : By) : armErr ⟨10000, false, 1, 0, 0, [(na, [])], []⟩ = 0 ∧ armD ⟨10000, false, 1, 0, 0, [(na, [])], []⟩ (1 + q) k = FS q k d 0 := by
  refine ⟨rfl, ?_⟩
  unfold armD FS
  simp
theorem moreOf_rep (d : By) (i : Nat) : moreOf (List.replicate i (na, d)) na = i * d.length := by
  induction i with
  | zero => simp [moreOf]
  | succ i ih => rw [List.replicate_succ, moreOf, if_pos rfl, ih, Nat.succ_mul, Nat.add_comm]
theorem pend_rep (d : By) (i : Nat) : pend (List.replicate i (na, d)) = i * d.length := by simp [pend]
theorem f_app {q : Nat} {k : Int} {d : By} {i : Nat} (hi : i < q) (hq : q ≤ 19) (hd : d.length ≤ 1000) : appErr (FS q k d i) na d = 0 ∧ appD (FS q k d i) na d = FS q k d (i + 1) := by
  have hfit : (FS q k d i).fit = true := by
    unfold DS.fit FS
    exact decide_eq_true (by simp only; omega)
  have hbeg : (FS q k d i).begun = { FS q k d i with ops := 1 + (i : Int) + 1, fails := 1 + (q : Int) - i - 1 } := by
    unfold DS.begun FS
    rw [if_neg (by simp only; omega), if_neg (by simp only; omega)]
  have ha : aget (FS q k d i).F na = some [] := by unfold FS; kernel_rfl
  have hil : i * d.length ≤ 19 * 1000 := Nat.mul_le_mul (by omega) hd
  have hu : usedOf (FS q k d i).F (FS q k d i).B = needs (i * d.length) := by
    show usedOf [(na, [])] (List.replicate i (na, d)) = _
    simp only [usedOf, List.map_cons, List.map_nil, List.sum_cons, List.sum_nil, List.length_nil, moreOf_rep, Nat.zero_add, Nat.add_zero]
  have hfull : ¬ ((FS q k d i).blocks - (usedOf (FS q k d i).F (FS q k d i).B : Int) < (grow (FS q k d i) na [] d.length : Int)) := by
    rw [hu]
    have h1 : grow (FS q k d i) na [] d.length ≤ needs (i * d.length + d.length) := by
      unfold grow
      show needs (([] : By).length + moreOf (List.replicate i (na, d)) na + d.length) - _ ≤ _
      rw [moreOf_rep, List.length_nil, Nat.zero_add]
      omega
    show ¬ ((10000 : Int) - _ < _)
    unfold needs at h1 ⊢
    omega
  have hoff : ¬ (FS q k d i).off = true := Bool.false_ne_true
  constructor
  · unfold appErr
    rw [if_neg hoff, ha]
    simp only [hfit, if_true, if_neg hfull]
  · unfold appD
    rw [if_neg hoff, ha]
    simp only [hfit, if_true, if_neg hfull]
    rw [hbeg]
    unfold DS.push FS
    simp only [DS.mk.injEq, true_and]
    refine ⟨by omega, by omega, ?_⟩
    rw [List.replicate_succ']
theorem f_sync {q : Nat} {k : Int} {d : By} : syncErr (FS q k d q) = 9 ∧ syncD (FS q k d q) = FC q k d := by
  have hf : (FS q k d q).fails = 1 := by unfold FS; simp only; omega
  have hfit : (FS q k d q).fit = false := by unfold DS.fit; rw [hf]; rfl
  have hoff : ¬ (FS q k d q).off = true := Bool.false_ne_true
  constructor
  · unfold syncErr
    rw [if_neg hoff, hfit]
    rfl
  · unfold syncD
    rw [if_neg hoff, hfit]
    simp only [Bool.false_eq_true, if_false]
    unfold DS.begun
    rw [hf, if_neg (by decide), if_pos rfl]
    unfold DS.crash DS.settle FS FC
    simp
theorem f_off {D : DS} (h : D.off = true) (n : Nm) : syncErr D = 9 ∧ syncD D = D ∧ creErr D n = 9 ∧ creD D n = D := by
  unfold syncErr syncD creErr creD
  simp [h]
theorem f_start (q : Nat) (k : Int) (d : By) : (FC q k d).start = { FC q k d with off := false } := rfl
theorem f_read (q : Nat) (k : Int) (d : By) : readErr ({ FC q k d with off := false } : DS) na = 0 ∧ (readB ({ FC q k d with off := false } : DS) na).length = min k.toNat (q * d.length) := by
  have h1 : aget (settleF [(na, [])] (List.replicate q (na, d)) k.toNat) na = some (pieces (takeB (List.replicate q (na, d)) k.toNat) na) := by
    rw [aget_settle]
    have : aget [(na, ([] : By))] na = some [] := by kernel_rfl
    rw [this]; simp
  have h2 : ∀ T : List (Nm × By), (∀ x ∈ T, x.1 = na) → moreOf T na = pend T := by
    intro T
    induction T with
    | nil => intro _; rfl
    | cons x l ih =>
      intro h
      rw [moreOf, pend_cons, if_pos (h x (List.mem_cons_self ..)), ih fun y hy => h y (List.mem_cons_of_mem _ hy)]
  constructor
  · show (if false = true then _ else if (aget (settleF [(na, [])] (List.replicate q (na, d)) k.toNat) na).isSome then _ else _) = _
    rw [h1]; rfl
  · show (if false = true then [] else match aget (settleF [(na, [])] (List.replicate q (na, d)) k.toNat) na with | none => [] | some s' => s' ++ pieces [] na).length = _
    rw [h1]
    simp only [Bool.false_eq_true, if_false, pieces, List.flatMap_nil, List.append_nil]
    have := pieces_len (takeB (List.replicate q (na, d)) k.toNat) na
    unfold pieces at this
    rw [this, h2 _ (fun x hx => by
      obtain ⟨y, hy, e⟩ := takeB_names _ _ x hx
      rw [← e, List.eq_of_mem_replicate hy]), pend_takeB, pend_rep]
theorem f_sync2 (q : Nat) (k : Int) (d : By) : syncErr ({ FC q k d with off := false } : DS) = 0 ∧ (syncD ({ FC q k d with off := false } : DS)).off = false ∧ (syncD ({ FC q k d with off := false } : DS)).F.map (·.1) = [na] := by
  have e : syncD ({ FC q k d with off := false } : DS) = { FC q k d with off := false, ops := 1 + (q : Int) + 1 + 1 } := by
    unfold syncD DS.begun DS.fit FC
    rfl
  rw [e]
  refine ⟨rfl, rfl, ?_⟩
  show (settleF [(na, [])] (List.replicate q (na, d)) k.toNat).map (·.1) = [na]
  rw [settleF_keys]
  rfl
theorem f_ok {D : DS} (h0 : 0 ≤ D.ops) (h1 : D.ops ≤ 1000) (h2 : D.fails ≤ 1000) (h3 : D.B.length ≤ 1000) : D.Ok := ⟨h0, by omega, by omega, by omega⟩
end Go.Proofs.Ytdlbccjimdghkaa
