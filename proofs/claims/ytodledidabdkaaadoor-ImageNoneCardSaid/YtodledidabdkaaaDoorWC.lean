/- A walk's New and Next walked. No condition but that the map lies, and that the keys ahead are the map's. -/
import Derived.Test.YtodledidabdkaaaDoorWB
namespace Go.Proofs.YtodledidabdkaaaDoor
open Go.RowKit Go.Shelf V
set_option linter.unusedVariables false
set_option linter.unusedSimpArgs false
/-- A walk lies at bW; ks are ahead, in block gR. -/
def Kw (po : Option Nat) (bW gR : Nat) (ks : List Tx) (w : World) : Prop := ∃ A c, w.heap[bW]? = some (.cells #[mV po, .slice A ks.length c] 114 (0, 0)) ∧ Foot (fun b => b = gR) (Sl A ks.length c 1 (strs ks)) w ∧ (ks ≠ [] → gR ≠ bW ∧ ∃ cur t fz, w.heap[gR]? = some (.cells cur t fz))
theorem Kw.kept {S : Nat → Prop} {po : Option Nat} {bW gR : Nat} {ks : List Tx} {w w' : World} (h : Kw po bW gR ks w) (k : Kp S w w') (h1 : S bW) (h2 : S gR) : Kw po bW gR ks w' := by
  obtain ⟨A, c, e, hf, hg⟩ := h
  exact ⟨A, c, k.heap e h1, hf.step (k.mono fun b _ hb => hb ▸ h2), fun hk => ⟨(hg hk).1, by obtain ⟨cur, t, fz, e⟩ := (hg hk).2; exact ⟨cur, t, fz, k.heap e h2⟩⟩⟩
theorem Kw.all {po : Option Nat} {bW gR : Nat} {ks : List Tx} {w w' : World} (h : Kw po bW gR ks w) (k : Kp All w w') : Kw po bW gR ks w' := h.kept k trivial trivial
theorem own_footR {w : World} {base g n c : Nat} {A : Option Addr} {xs : List Value} {t : TypeId} (h : w.ownsRow base t 1 (.slice A n c) n xs) (hb : ∀ a, A = some a → a.block = g) : Foot (fun b => b = g) (Sl A n c 1 xs) w := by
  intro u hu
  have h2 : u.ownsRow base t 1 (.slice A n c) n xs := own_kept h hu (fun b e => by
    cases A with
    | none => cases e
    | some a => injection e with e; rw [← e]; exact hb a rfl)
  have := (own_sl h2 (Nat.le_refl _)).1
  rwa [List.take_of_length_le (by have := h.1; omega)] at this
set_option maxRecDepth 100000 in
theorem wnew_any (k0 k1 : Nat) (po : Option Nat) (M : Mp) (O : Nat → Prop) (w : World) (h : Lo k0 k1 po M O w) : Calls Tryd.prog 44 #[mV po] w fun e w' => ∃ bW gR, e = .returned (.pointer (some ⟨bW, 0, none⟩)) ∧ w.heap.size ≤ bW ∧ (keysP M ≠ [] → w.heap.size ≤ gR) ∧ Kw po bW gR (keysP M) w' ∧ Kp All w w' := by
  have HK := hid (mkeys_any k0 k1 po M O w h)
  clear h
  have hmv : ∃ x, mV po = .pointer x := ⟨_, rfl⟩
  obtain ⟨x, hx⟩ := hmv
  rw [hx] at HK ⊢
  have HX := hid hx
  clear hx
  go_enter Tryd.func44, Tryd.ntmps44
  go_wp2_with fail
  refine HK.out.mono ?_
  rintro e w1 ⟨v, rfl, hown, hk⟩
  obtain ⟨A, c, rfl⟩ := own_shape hown
  have HOW := hid hown; have HKK := hid hk
  obtain ⟨n, hn⟩ : ∃ n, (keysP M).length = n := ⟨_, rfl⟩
  rw [hn] at HOW
  have HN := hid hn
  rw [hn]
  clear hown hk hn
  go_wp2_with fail
  go_ret
  rcases own_at HOW.out with ⟨e1, e2, e3⟩ | ⟨gb, cap, cur, e1, e2, e3, e4⟩
  · have hnil : keysP M = [] := List.eq_nil_of_length_eq_zero (by rw [HN.out, e2])
    refine ⟨_, 0, rfl, HKK.out.size, fun h => absurd hnil h, ⟨A, c, ?_, ?_, fun h => absurd hnil h⟩, HKK.out.alloc _⟩
    · rw [HX.out, HN.out]; exact blk_new _ _
    · rw [hnil]
      intro u hu
      exact ⟨rfl, Nat.zero_le _, fun h => absurd h (by simp)⟩
  · injection e1 with e1 _ _
    refine ⟨_, gb, rfl, HKK.out.size, fun _ => e3, ⟨A, c, ?_, ?_, fun _ => ⟨?_, cur, _, _, blk_alloc e2 _⟩⟩, HKK.out.alloc _⟩
    · rw [HX.out, HN.out]; exact blk_new _ _
    · rw [HN.out]
      exact own_footR (base := w.heap.size) (t := 9) ((HOW.out).alloc _) (fun a e => by rw [e1] at e; injection e with e; rw [← e])
    · have := blk_lt e2
      omega
set_option maxRecDepth 100000 in
theorem wnext_nil (po : Option Nat) (bW : Nat) (w : World) (gR : Nat) (h : Kw po bW gR [] w) : Calls Tryd.prog 45 #[.pointer (some ⟨bW, 0, none⟩)] w fun e w' => e = .returned (.tuple #[.string ByteArray.empty, .string ByteArray.empty, .bool false]) ∧ w' = w := by
  obtain ⟨A, c, e, _, _⟩ := h
  have c0 := blk_cell e
  simp only [List.length_nil] at c0
  clear e
  go_enter Tryd.func45, Tryd.ntmps45
  go_wp2
  refine wp_loop_rounds 1 ?_
  rw [rounds_succ]
  go_wp2
  exact bodyPost_ret (v := .tuple #[.string ByteArray.empty, .string ByteArray.empty, .bool false]) (by simp [results, Tryd.results45, go_sem]; rfl) rfl ⟨rfl, rfl⟩
set_option maxRecDepth 100000 in
set_option maxHeartbeats 1000000 in
theorem wnext_cons (k0 k1 bm bW gR : Nat) (M : Mp) (O : Nat → Prop) (k v : Tx) (r : List Tx) (hkv : getP' (sipP k0 k1) M k = some v) (hk9 : k.size ≤ 9000000000000000000) (hr : r.length ≤ 2000) (w : World) (hl : Lm k0 k1 bm M O w) (hO : ¬ O bW) (h : Kw (some bm) bW gR (k :: r) w) :
    Calls Tryd.prog 45 #[.pointer (some ⟨bW, 0, none⟩)] w fun e w' => e = .returned (.tuple #[.string k, .string v, .bool true]) ∧ Kw (some bm) bW gR r w' ∧ Kp (fun b => b ≠ bW) w w' := by
  obtain ⟨A, c, hb, hf, hgr⟩ := h
  obtain ⟨hgne, hgc⟩ := hgr (by simp)
  obtain ⟨curg, tg, fzg, hgc⟩ := hgc
  have HGC := hid hgc
  clear hgc hgr
  obtain ⟨bw, cw, bs, cs, hm, hOO⟩ := hl.ms
  obtain ⟨n, hn⟩ : ∃ n, r.length = n := ⟨_, rfl⟩
  rw [List.length_cons, hn] at hb hf
  obtain ⟨_, hc2, h3⟩ := hf.now
  obtain ⟨b, o, eA, hrr⟩ := h3 (by omega)
  subst eA
  have p0 : w.cell? ⟨b, o, none⟩ = some (.string k) := by
    have := hrr 0 (.string k) rfl
    rwa [Nat.add_zero] at this
  have c0 := blk_cell hb
  have f0 := blk_free hb
  have hin : ∀ i, findP (sipP k0 k1) M k = some i → i < 8 * M.g := fun i hi => by
    obtain ⟨v0, hF⟩ := find_mem hl.inv hi
    have := hF.lt
    rw [hl.inv.g8] at this
    exact this
  have HG := hid (fun w' hk' => mget_any k0 k1 bm bw cw bs cs M hl.inv.pm hl.h0 hl.h1 k hk9 w' (hm.kept (S := fun b => b ≠ bW) hk' (fun e => hO ((hOO _).2 (.inl e.symm))) (fun e => hO ((hOO _).2 (.inr (.inl e.symm)))) (fun e => hO ((hOO _).2 (.inr (.inr e.symm))))) hin)
  rw [hkv] at HG
  have HF := hid hf; have HB := hid hb; have HN := hid hn; have HR := hid hrr
  have d0 : decide ((0 : Int) < ((n + 1 : Nat) : Int)) = true := decide_eq_true (by omega)
  have i1 : (1 : Int) ≤ ((n + 1 : Nat) : Int) := by omega
  have i2 : ((n + 1 : Nat) : Int) ≤ (c : Int) := by omega
  have i3 : (1 : Int) ≤ (c : Int) := by omega
  have i4 : (0 : Int) < ((n + 1 : Nat) : Int) := by omega
  clear hb hf hm hOO hl hin hn hrr h3 hkv
  have hcc : c = 1 ∨ c ≠ 1 := by omega
  rcases hcc with hc1 | hc1
  · subst hc1
    go_enter Tryd.func45, Tryd.ntmps45
    go_wp2_with fail
    refine wp_loop_rounds 1 ?_
    rw [rounds_succ]
    go_wp2_with fail
    refine (HG.out _ ((Kp.refl _ _).setOut (by simp) _)).mono ?_
    rintro e w2 ⟨rfl, hk2⟩
    have HK2 := hid hk2
    clear hk2
    simp only [getV, Option.getD_some, Option.isSome_some]
    go_wp2_with fail
    have hn0 : n = 0 := by omega
    have hr0 : r = [] := List.eq_nil_of_length_eq_zero (by rw [HN.out, hn0])
    refine bodyPost_ret (v := .tuple #[.string k, .string v, .bool true]) (by simp [results, Tryd.results45, go_sem]) rfl ⟨rfl, ?_, ((Kp.refl _ _).setOut (by simp) _).then HK2.out (fun _ _ _ => trivial)⟩
    rw [hr0]
    exact ⟨some ⟨b, o, none⟩, 0, HK2.out.heap (blk_set HB.out 1 (.slice (some ⟨b, o, none⟩) 0 0)) trivial, fun u hu => ⟨rfl, Nat.le_refl _, fun h => absurd h (by simp)⟩, fun h => absurd rfl h⟩
  · go_enter Tryd.func45, Tryd.ntmps45
    go_wp2_with fail
    refine wp_loop_rounds 1 ?_
    rw [rounds_succ]
    go_wp2_with fail
    refine (HG.out _ ((Kp.refl _ _).setOut (by simp) _)).mono ?_
    rintro e w2 ⟨rfl, hk2⟩
    have HK2 := hid hk2
    clear hk2
    simp only [getV, Option.getD_some, Option.isSome_some]
    go_wp2_with fail
    have hkt : Kp (fun b => b ≠ bW) w w2 := ((Kp.refl _ _).setOut (by simp) _).then HK2.out (fun _ _ _ => trivial)
    refine bodyPost_ret (v := .tuple #[.string k, .string v, .bool true]) (by simp [results, Tryd.results45, go_sem]) rfl ⟨rfl, ?_, hkt⟩
    refine ⟨some ⟨b, o + 1, none⟩, c - 1, ?_, ?_, fun _ => ⟨hgne, curg, tg, fzg, hkt.heap HGC.out hgne⟩⟩
    · rw [HN.out]
      exact HK2.out.heap (blk_set HB.out 1 (.slice (some ⟨b, o + 1, none⟩) n (c - 1))) trivial
    · intro u hu
      obtain ⟨g1, g2, g3⟩ := HF.out u ((hkt.mono (T := fun b => b = gR) (fun i _ (e : i = gR) => by rw [e]; exact hgne)).trans hu)
      refine ⟨by simp [strs], by rw [HN.out]; omega, fun h => ⟨b, o + 1, rfl, fun j x hj => ?_⟩⟩
      obtain ⟨b', o', e', g4⟩ := g3 (by omega)
      injection e' with e'
      injection e' with e1 e2 _
      subst e1 e2
      have := g4 (j + 1) x (by simpa [strs] using hj)
      rwa [show o + (j + 1) = o + 1 + j from by omega] at this
end Go.Proofs.YtodledidabdkaaaDoor
