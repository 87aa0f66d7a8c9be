/- A map's pairs as a sequence: what it hands to the collecting loop: walked once. -/
import Derived.Test.YtodledidabdkaaaDoorWC
namespace Go.Proofs.YtodledidabdkaaaDoor
open Go.RowKit Go.Shelf V
set_option linter.unusedVariables false
set_option linter.unusedSimpArgs false
attribute [local go_sem] Oper.semAt_some
theorem Rk.kp {B g : Nat} {W W' : World} (k : Rk B W W') {cs : Array Value} {t : TypeId} {fz : Nat × Nat} (h : W.heap[g]? = some (.cells cs t fz)) (hp : ¬ Pv B W g) : Kp (fun b => b = g) W W' :=
  ⟨k.os, k.tape, k.output, k.size, fun b hb e => by subst e; exact (k.same _ _ h rfl hp).trans h.symm⟩
theorem Lo.rk {k0 k1 B : Nat} {po : Option Nat} {M : Mp} {O : Nat → Prop} {W W' : World} (h : Lo k0 k1 po M O W) (k : Rk B W W') (hp : ∀ b, O b → ¬ Pv B W b) : Lo k0 k1 po M O W' := by
  cases po with
  | none => exact h
  | some bm =>
    have h : Lm k0 k1 bm M O W := h
    obtain ⟨bw, cw, bs, cs, hm, hO⟩ := h.ms
    obtain ⟨c1, e1, e2, e3⟩ := hm.wds
    obtain ⟨c2, f1, f2, f3⟩ := hm.sls
    exact ({ h with ms := ⟨bw, cw, bs, cs, { hm with str := k.same _ _ hm.str rfl (hp _ ((hO _).2 (.inl rfl))), wds := ⟨c1, k.same _ _ e1 rfl (hp _ ((hO _).2 (.inr (.inl rfl)))), e2, e3⟩, sls := ⟨c2, k.same _ _ f1 rfl (hp _ ((hO _).2 (.inr (.inr rfl)))), f2, f3⟩ }, hO⟩ } : Lm k0 k1 bm M O W')
theorem Kw.rk {B : Nat} {po : Option Nat} {bW gR : Nat} {ks : List Tx} {W W' : World} (h : Kw po bW gR ks W) (k : Rk B W W') (h1 : ¬ Pv B W bW) (h2 : ks ≠ [] → ¬ Pv B W gR) : Kw po bW gR ks W' := by
  obtain ⟨A, c, e, hf, hg⟩ := h
  refine ⟨A, c, k.same _ _ e rfl h1, ?_, fun hk => ⟨(hg hk).1, by obtain ⟨cur, t, fz, e⟩ := (hg hk).2; exact ⟨cur, t, fz, k.same _ _ e rfl (h2 hk)⟩⟩⟩
  by_cases hk : ks = []
  · subst hk
    have := hf.now
    exact fun u hu => ⟨rfl, this.2.1, fun h => absurd h (by simp)⟩
  · obtain ⟨cur, t, fz, e⟩ := (hg hk).2
    exact hf.step (k.kp e (h2 hk))
theorem nopv {B : Nat} {W W' : World} (k : Rk B W W') {b : Nat} (hb : b < W.heap.size) (h : ¬ Pv B W b) : ¬ Pv B W' b := fun e => h (k.priv b hb e)
def slA (x : Slot) : Array Value := #[.string x.1, .string x.2]
def hdk (L : List Slot) : Tx := (L.head?.map (·.1)).getD ByteArray.empty
def hdv (L : List Slot) : Tx := (L.head?.map (·.2)).getD ByteArray.empty
def nxV (L : List Slot) : Value := .tuple #[.string (hdk L), .string (hdv L), .bool (!L.isEmpty)]
theorem nextw_at (k0 k1 bW gR : Nat) (po : Option Nat) (M : Mp) (O : Nat → Prop) (L : List Slot) (hsub : ∀ x ∈ L, x ∈ fullP M) (hlen : L.length ≤ 2000) (w : World) (h : Lo k0 k1 po M O w) (hO : ¬ O bW) (hk : Kw po bW gR (L.map (·.1)) w) :
    Calls Tryd.prog 45 #[.pointer (some ⟨bW, 0, none⟩)] w fun e w' => e = .returned (nxV L) ∧ Kw po bW gR (L.tail.map (·.1)) w' ∧ Kp (fun b => b ≠ bW) w w' := by
  cases L with
  | nil =>
    refine (wnext_nil po bW w gR hk).mono ?_
    rintro e w' ⟨rfl, hw⟩
    rw [hw]
    exact ⟨rfl, hk, Kp.refl _ _⟩
  | cons x r =>
    have hx := hsub x (List.mem_cons_self ..)
    cases po with
    | none =>
      rw [h.1] at hx
      cases hx
    | some bm =>
      have h : Lm k0 k1 bm M O w := h
      have hh := mem_full.1 hx
      exact wnext_cons k0 k1 bm bW gR M O x.1 x.2 (r.map (fun s : Slot => s.1)) ((get_some h.inv).2 hh) (h.keys _ _ hh) (by simp at hlen ⊢; omega) w h hO hk
def mW (bW : Nat) (w : World) : Nat := match w.cell? ⟨bW, 1, none⟩ with
  | some (.slice _ n _) => n
  | _ => 0
theorem mW_kw {po : Option Nat} {bW gR : Nat} {ks : List Tx} {w : World} (h : Kw po bW gR ks w) : mW bW w = ks.length := by
  obtain ⟨A, c, e, _⟩ := h
  unfold mW
  rw [blk_cell e]
  rfl
theorem Kp.grow1 {bW : Nat} {w w' : World} (k : Kp (fun b => b ≠ bW) w w') : w.grownBy w' (some bW) := ⟨k.os, k.tape, k.output, k.size, fun b hb h => k.block b hb (fun e => h (by rw [e]))⟩
set_option maxRecDepth 100000 in
set_option maxHeartbeats 2000000 in
theorem all1_in (n : Nat) (hn : 3 ≤ n) (l B b1 k0 k1 : Nat) (po : Option Nat) (M : Mp) (O : Nat → Prop) (J : List Slot → World → Prop) (W : World) (hJ : OwnX B W.heap.size J) (hB : B < W.heap.size)
    (hp : ∀ pre W', J pre W' → ∀ b, Pv B W' b → b < W'.heap.size)
    (hY : ∀ (m : Nat) pre x W1, J pre W1 → pre.length < 2000 → YieldAt Fence.wide m Tryd.prog l (slA x) W1 fun e W' => e = .returned (.bool true) ∧ J (pre ++ [x]) W' ∧ Rk B W1 W' ∧ KeepsFrom W.heap.size W1 W')
    (hb : W.heap[b1]? = some (.cells #[mV po] 24 (0, 0))) (hl : Lo k0 k1 po M O W) (hOp : ∀ b, O b → ¬ Pv B W b) (h0 : J [] W) :
    CallsIn Fence.wide n Tryd.prog 43 #[.func (.yield l) #[] #[], .pointer (some ⟨b1, 0, none⟩)] W fun e W' => (∃ v, e = .returned v) ∧ ∃ xs, J xs W' ∧ xs = fullP M := by
  have HNEW := hid (fun w h => callsIn_wide (n := n - 1).2 (wnew_any k0 k1 po M O w h))
  have hlen := lo_len hl
  have hc1 := blk_cell hb
  have HL := hid hl; have HY := hid hY; have HJ := hid hJ; have HP := hid hp; have HOP := hid hOp; have H0 := hid h0
  have hmv : ∃ x, mV po = .pointer x := ⟨_, rfl⟩
  obtain ⟨xm, hx⟩ := hmv
  have hf1 : Fence.wide.fn 44 := trivial
  have hf2 : Fence.wide.fn 45 := trivial
  rw [hx] at HNEW hc1
  have hn1 : 1 ≤ n := by omega
  clear hl hY hJ hp hOp h0 hb
  refine callsIn_of_wp Tryd.func43 rfl trivial ?_ rfl
  simp only [Tryd.ntmps43, List.size_toArray, List.length_cons, List.length_nil, Nat.reduceAdd, Nat.reduceSub, Array.replicate_succ, Array.replicate_zero, List.push_toArray, List.append_toArray, List.nil_append, List.cons_append]
  have hkl : ∀ x ∈ fullP M, x ∈ fullP M := fun _ h => h
  have HN0 := hid (fun w bW gR h hO hk => callsIn_wide (n := n - 1).2 (nextw_at k0 k1 bW gR po M O (fullP M) hkl hlen w h hO hk))
  gi_wp2_with (gi_at_call 44; refine (HNEW.out _ HL.out).mono ?_; rintro e w2 ⟨bW, gR, rfl, z1, z2, hkw, hk2⟩)
  have hObw : ¬ O bW := fun e => by have := HL.out.lt _ e; omega
  have HL2 := hid (HL.out.all hk2)
  refine (HN0.out w2 bW gR HL2.out hObw hkw).mono ?_
  rintro e w3 ⟨rfl, hkw3, hk3⟩
  have hk23 : Kp (fun b => b ≠ bW) W w3 := (hk2.all).trans hk3
  have hBne : B ≠ bW := by omega
  have hpv3 : ∀ b, Pv B w3 b → b < W.heap.size := fun b h => HP.out _ _ H0.out b ((Pv.same (hk23.block B hB hBne) b).1 h)
  have HL3 : Hid (Lo k0 k1 po M O w3) := hid (HL2.out.kept hk3 (fun b hb e => hObw (e ▸ hb)))
  have HJ3 : Hid (J [] w3) := hid (HJ.out [] W w3 none H0.out (grown_kp (by exact ⟨hk23.os, hk23.tape, hk23.output, hk23.size, fun b hb _ => hk23.block b hb (by omega)⟩)) (fun r e => by cases e))
  have hbW3 : bW < w3.heap.size := by obtain ⟨_, _, e, _⟩ := hkw3; exact blk_lt e
  have hB3 : B < w3.heap.size := Nat.lt_of_lt_of_le hB hk23.size
  have NB := hid (show ¬ Pv B w3 bW from fun e => by have := hpv3 _ e; omega)
  have NR := hid (show keysP M ≠ [] → ¬ Pv B w3 gR from fun h e => by have := hpv3 _ e; have := z2 h; omega)
  have NO := hid (show ∀ b, O b → ¬ Pv B w3 b from fun b hb e => HOP.out b hb ((Pv.same (hk23.block B hB hBne) b).1 e))
  have HKW3 := hid hkw3
  clear hkw hk2 hkw3 hk3
  unfold nxV
  gi_wp2
  have NAll := hid (show (∀ b, O b → ¬ Pv B w3 b) ∧ ¬ Pv B w3 bW ∧ (keysP M ≠ [] → ¬ Pv B w3 gR) from ⟨NO.out, NB.out, NR.out⟩)
  have hgr : (fullP M).tail ≠ [] → keysP M ≠ [] := fun h e => by
    unfold keysP at e
    have : fullP M = [] := by simpa using e
    rw [this] at h
    exact h rfl
  have NAll2 := hid (show (∀ b, O b → ¬ Pv B w3 b) ∧ ¬ Pv B w3 bW ∧ ((fullP M).tail ≠ [] → ¬ Pv B w3 gR) from ⟨NO.out, NB.out, fun h => NR.out (hgr h)⟩)
  gi_loopw [4, 5, 6] (fun a b c wr => ∃ (pre L : List Slot), a = .string (hdk L) ∧ b = .string (hdv L) ∧ c = .bool (!L.isEmpty) ∧ Hid (pre ++ L = fullP M) ∧ J pre wr ∧ Hid (Kw po bW gR (L.tail.map (·.1)) wr) ∧ Hid (Lo k0 k1 po M O wr) ∧ Hid (B < wr.heap.size) ∧ Hid ((∀ b, O b → ¬ Pv B wr b) ∧ ¬ Pv B wr bW ∧ (L.tail ≠ [] → ¬ Pv B wr gR)))
    (fun a b c wr => (match c with | .bool true => 1 | _ => 0) + mW bW wr)
  case atStart => exact ⟨[], fullP M, rfl, rfl, rfl, hid rfl, HJ3.out, HKW3, HL3, hid hB3, NAll2⟩
  case round =>
    obtain ⟨pre, L, rfl, rfl, rfl, hL, hJr, hKr, hLr, hBr, hNr⟩ := hrel
    cases L with
    | nil =>
      simp only [List.isEmpty_nil, Bool.not_true]
      gi_wp2
      refine ⟨fun f e => (by cases e), ?_⟩
      gi_wp2
      go_end0
      exact ⟨⟨_, rfl⟩, pre, hJr, by rw [← hL.out, List.append_nil]⟩
    | cons x r =>
      have hpl : pre.length < 2000 := by
        have := congrArg List.length hL.out
        simp at this
        omega
      obtain ⟨fn, tmps, assign, body, hy, hR⟩ := HY.out (n - 1) pre x wr hJr hpl
      unfold slA at hy
      have e1 : hdk (x :: r) = x.1 := rfl
      have e2 : hdv (x :: r) = x.2 := rfl
      have e3 : (!(x :: r).isEmpty) = true := rfl
      rw [e1, e2, e3]
      gi_wp2
      refine hR.mono ?_
      rintro e W4 ⟨rfl, hJ4, hk4, hkf4⟩
      have hbW : bW < wr.heap.size := by obtain ⟨_, _, e, _⟩ := hKr.out; exact blk_lt e
      have hN4 : (∀ b, O b → ¬ Pv B W4 b) ∧ ¬ Pv B W4 bW ∧ (r ≠ [] → ¬ Pv B W4 gR) := ⟨fun b hb => nopv hk4 (hLr.out.lt b hb) (hNr.out.1 b hb), nopv hk4 hbW hNr.out.2.1, fun h => nopv hk4 (by
        obtain ⟨_, _, _, _, e⟩ := hKr.out
        obtain ⟨_, _, _, e⟩ := (e (by simpa using h)).2
        exact blk_lt e) (hNr.out.2.2 h)⟩
      have hK4 := hKr.out.rk hk4 hNr.out.2.1 (fun h => hNr.out.2.2 (by simpa using h))
      have hL4 := hLr.out.rk hk4 hNr.out.1
      have hsub : ∀ y ∈ r, y ∈ fullP M := fun y hy => by
        rw [← hL.out]
        exact List.mem_append_right _ (List.mem_cons_of_mem _ hy)
      have HNX := hid (callsIn_wide (n := n - 1).2 (nextw_at k0 k1 bW gR po M O r hsub (by have := congrArg List.length hL.out; simp at this; omega) W4 hL4 hObw hK4))
      have HJ4 := hid hJ4; have HN4 := hid hN4; have HL4 := hid hL4; have HK4 := hid hK4; have HB4 := hid (Nat.lt_of_lt_of_le hBr.out hk4.size)
      have hmr : Hid (mW bW wr = r.length) := hid (by rw [mW_kw hKr.out]; simp)
      clear hJ4 hk4 hkf4 hK4 hL4 hsub hN4
      gi_wp2
      refine HNX.out.mono ?_
      rintro e W5 ⟨rfl, hK5, hk5⟩
      have HK5 := hid hK5; have Hk5 := hid hk5
      clear hK5 hk5
      unfold nxV
      gi_wp2
      have hPs : ∀ b, Pv B W5 b ↔ Pv B W4 b := fun b => Pv.same (Hk5.out.block B HB4.out hBne) b
      refine ⟨⟨pre ++ [x], r, rfl, rfl, rfl, hid (by rw [← hL.out]; simp), ?_, HK5, hid (HL4.out.kept Hk5.out (fun b hb e => hObw (e ▸ hb))), hid (Nat.lt_of_lt_of_le HB4.out Hk5.out.size), hid ⟨fun b hb e => HN4.out.1 b hb ((hPs b).1 e), fun e => HN4.out.2.1 ((hPs _).1 e), fun h e => HN4.out.2.2 (fun h2 => h (by rw [h2]; rfl)) ((hPs _).1 e)⟩⟩, ?_⟩
      · refine HJ.out _ W4 W5 (some bW) HJ4.out Hk5.out.grow1 (fun r e => ?_)
        injection e with e
        subst e
        obtain ⟨_, _, e, _⟩ := HK4.out
        exact ⟨z1, _, e, .inr HN4.out.2.1⟩
      · rw [mW_kw HK5.out, hmr.out]
        cases r with
        | nil => simp
        | cons y r => simp
end Go.Proofs.YtodledidabdkaaaDoor
