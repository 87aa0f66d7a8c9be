/- The law SessionApart and its examples answer true, whatever the acts are: the walk. -/
import Derived.Test.YtkipijdbkkcioaaSD
namespace Go.Proofs.Ytkipijdbkkcioaa
open Go.RowKit

theorem Tab.mono {S T : Nat → Prop} {w : World} {p m : Nat} {L : List (Int × Int × RD)} (h : Tab S w p m L) (hs : ∀ b, b < w.heap.size → S b → T b) : Tab T w p m L := by
  obtain ⟨X, h1, h2, h3⟩ := h.map
  exact ⟨h.cell, ⟨X, h1, h2, fun x hx => ⟨(h3 x hx).1.mono hs, (h3 x hx).2⟩⟩, h.ne⟩
theorem Tab.all {S : Nat → Prop} {w w' : World} {p m : Nat} {L : List (Int × Int × RD)} (h : Tab S w p m L) (k : Kp All w w') : Tab S w' p m L := h.kept k trivial trivial (fun _ _ _ => trivial)

def vR : RD := ⟨0, false, ⟨#[118]⟩, 0, []⟩

set_option maxRecDepth 100000 in
theorem lives_any (w : World) : Calls Try.prog 9 #[] w fun e w' => e = .returned (.bool true) ∧ Kp All w w' := by
  go_enter Try.func9, Try.ntmps9
  go_wp2_with fail
  refine (new_any w).mono ?_
  rintro e w1 ⟨⟨p, m, rfl, ht, hp, hm⟩, hk⟩
  have ht1 := ht.mono (T := fun b => b ≠ m) (fun b _ h => h.elim)
  have T1 := hid ht1
  have K1 := hid hk
  have Hp := hid hp
  have Hm := hid hm
  clear ht ht1 hk hp hm
  go_wp2_with fail
  refine (open_any _ p m [] 5 _ T1.out (fun h => h rfl)).mono ?_
  rintro e w2 ⟨rfl, ht, hk⟩
  rw [show openErr [] 5 = 0 from by decide]
  have T2 : Hid (Tab (fun b => b ≠ m) w2 p m [(5, 0, .z)]) := hid ht
  have K2 := hid (K1.out.then hk (fun i hi _ e => by have := Hm.out; omega))
  clear ht hk
  go_wp2_with fail
  refine (ask_any _ p m _ 5 1 _ T2.out).mono ?_
  rintro e w3 ⟨A3, c3, rfl, hf, hk⟩
  rw [show askErr [(5, 0, RD.z)] 5 1 = 4 from by decide, show askR [(5, 0, RD.z)] 5 1 = .z from rfl]
  have T3 := hid (T2.out.all hk)
  have K3 := hid (K2.out.trans hk)
  clear hf hk
  go_wp2_with fail
  refine (done_any _ p m _ 5 1 vR none 0 _ (T3.out.all (Kp.al _ _)) (fun h => h rfl) (fun b hb e => by have := T3.out.map_lt; simp at hb; omega) (ps_nil _ _) (by simp [small, vR])).mono ?_
  rintro e w4 ⟨rfl, ht, hk⟩
  rw [show doneErr [(5, 0, RD.z)] 5 1 = 0 from by decide]
  have T4 : Hid (Tab (fun b => b ≠ m) w4 p m [(5, 1, vR)]) := hid ht
  have K4 := hid ((K3.out.alloc _).then hk (fun i hi _ e => by have := Hm.out; omega))
  clear ht hk
  go_wp2_with fail
  refine (ask_any _ p m _ 5 1 _ T4.out).mono ?_
  rintro e w5 ⟨A5, c5, rfl, hf, hk⟩
  rw [show askErr [(5, 1, vR)] 5 1 = 0 from by decide, show askR [(5, 1, vR)] 5 1 = vR from rfl]
  have T5 := hid (T4.out.all hk)
  have K5 := hid (K4.out.trans hk)
  clear hf hk
  go_wp2_with fail
  refine (ask_any _ p m _ 5 0 _ (T5.out.all (Kp.al _ _))).mono ?_
  rintro e w6 ⟨A6, c6, rfl, hf, hk⟩
  rw [show askErr [(5, 1, vR)] 5 0 = 15 from by decide, show askR [(5, 1, vR)] 5 0 = .z from rfl]
  have K6 := hid ((K5.out.alloc _).trans hk)
  have b5 := hk.heap (blk_new w5 _) trivial
  have c5' := blk_cell b5
  have hw5 : w5.heap.size < w6.heap.size := blk_lt b5
  clear hf hk b5
  have hv : (vR.val.toList == [118]) = true := by rw [ByteArray.toList_eq]; rfl
  go_wp2_with fail
  go_ret
  exact ⟨rfl, K6.out.alloc _⟩

/-- An act, its pairs' slice. -/
structure AD where
  kind : Int
  n : Int
  m : Int
  r : RD
  A : Option Addr
  c : Nat
instance : Inhabited AD := ⟨⟨0, 0, 0, .z, none, 0⟩⟩
@[reducible] def actCells (a : AD) : List Value := [.int .i64 a.kind, .int .i64 a.n, .int .i64 a.m, .int .i64 a.r.err, .bool a.r.found, .string a.r.val, .int .i64 a.r.sess, .slice a.A a.r.pairs.length a.c]
/-- A reply that may be weighed and copied. -/
structure Fine (r : RD) : Prop where
  small : small r
  val : r.val.size ≤ 9223372036854775807
/-- The acts lie at b, o. -/
structure Acts (b o : Nat) (xs : List AD) (w : World) : Prop where
  cell : ∀ k j u, k < xs.length → (actCells (xs.getD k default))[j]? = some u → w.cell? ⟨b, o + k * 8 + j, none⟩ = some u
  pairs : ∀ k, k < xs.length → Ps (xs.getD k default).A (xs.getD k default).c (xs.getD k default).r.pairs w

def Seven (T : List (Int × Int × RD)) (xm : Int) (xr : RD) (er : Int) : Prop := (er = 0 ∧ 0 < xm ∧ aget T 7 = some (xm, xr)) ∨ (er = 15 ∧ ¬ 0 < xm ∧ aget T 7 = some (0, .z))
theorem first7 {er : Int} {T0 : List (Int × Int × RD)} (xm : Int) (xr : RD) (her : doneErr [(7, 0, RD.z)] 7 xm = er) (hT0 : doneT [(7, 0, RD.z)] 7 xm xr = T0) : Seven T0 xm xr er := by
  have ha : aget ([(7, 0, RD.z)] : List (Int × Int × RD)) 7 = some (0, RD.z) := by simp [aget]
  subst hT0 her
  by_cases hm0 : 0 < xm
  · have h0 : doneErr [(7, 0, RD.z)] 7 xm = 0 := by rw [doneErr, ha]; simp only; rw [if_neg (by omega)]
    exact .inl ⟨h0, hm0, by rw [doneT, if_pos h0]; exact aget_aset_same _ _ _⟩
  · have h0 : doneErr [(7, 0, RD.z)] 7 xm = 15 := by rw [doneErr, ha]; simp only; rw [if_pos (by omega)]
    exact .inr ⟨h0, hm0, by rw [doneT, h0]; exact ha⟩
theorem Seven.of {T T' : List (Int × Int × RD)} {xm : Int} {xr : RD} {er : Int} (h : Seven T xm xr er) (he : aget T' 7 = aget T 7) : Seven T' xm xr er := by
  rcases h with ⟨h1, h2, h3⟩ | ⟨h1, h2, h3⟩
  · exact .inl ⟨h1, h2, he.trans h3⟩
  · exact .inr ⟨h1, h2, he.trans h3⟩
theorem open7 {T : List (Int × Int × RD)} {n : Int} (h : n ≠ 7) : aget (openT T n) 7 = aget T 7 := by
  unfold openT; split
  · exact aget_aset_other _ _ _ _ (Ne.symm h)
  · rfl
theorem done7 {T : List (Int × Int × RD)} {n s : Int} {r : RD} (h : n ≠ 7) : aget (doneT T n s r) 7 = aget T 7 := by
  unfold doneT; split
  · exact aget_aset_other _ _ _ _ (Ne.symm h)
  · rfl
theorem exp7 {T : List (Int × Int × RD)} {n : Int} (h : n ≠ 7) : aget (expT T n) 7 = aget T 7 := by
  unfold expT; split
  · exact aget_adel_other _ _ _ (Ne.symm h)
  · rfl

set_option maxRecDepth 100000 in
set_option maxHeartbeats 4000000 in
theorem apart_true (O : Option Addr) (c : Nat) (xs : List AD) (x : AD) (w : World) (hn : xs.length ≤ 9223372036854775806) (h : 0 < xs.length → ∃ b o, O = some ⟨b, o, none⟩ ∧ Foot All (Acts b o xs) w) (hf : ∀ k, k < xs.length → Fine (xs.getD k default).r) (hx : Foot All (Ps x.A x.c x.r.pairs) w) (hxf : Fine x.r) :
    Calls Try.prog 3 #[.slice O xs.length c, .agg (actCells x).toArray] w fun e w' => e = .returned (.bool true) ∧ Kp All w w' := by
  have H := hid h
  have HX := hid hx
  have HF := hid hf
  have HXF := hid hxf
  clear h hx hf hxf
  obtain ⟨n, hl⟩ : ∃ n, xs.length = n := ⟨_, rfl⟩
  have HL := hid hl
  rw [hl] at hn ⊢
  clear hl
  go_enter Try.func3, Try.ntmps3
  go_wp2_with fail
  go_loopw [5, 16] (fun x2 i wr => ∃ (k : Nat) (y : Int), k ≤ n ∧ i = .int .i64 k ∧ x2 = .int .i64 y ∧ Hid (Kp All w wr) ∧ Hid (wr.heap[w.heap.size]? = some (.cells (actCells x).toArray 28 (0, 0)))) (fun _ i _ => n - (intOf i).toNat)
  case atStart => exact ⟨0, _, Nat.zero_le _, rfl, rfl, Kp.al _ _, blk_new w _⟩
  case round =>
    obtain ⟨k, y, hk, rfl, rfl, hkp, hbx⟩ := hrel
    by_cases hlt : k < n
    · have hb0 : decide ((k : Int) < (n : Int)) = true := decide_eq_true (by omega)
      have hltx : k < xs.length := by rw [HL.out]; exact hlt
      obtain ⟨b, o, eO, hacts⟩ := H.out (by rw [HL.out]; omega)
      subst eO
      obtain ⟨a, ha⟩ : ∃ a, xs.getD k default = a := ⟨_, rfl⟩
      have hc := (hacts.step hkp.out).now.cell k
      have hp : Foot All (Ps a.A a.c a.r.pairs) wr := (hacts.step hkp.out).imp fun u hu => ha ▸ hu.pairs k hltx
      have hfa : Fine a.r := ha ▸ HF.out k hltx
      rw [ha] at hc
      have p0 := hc 0 _ hltx rfl
      have p1 := hc 1 _ hltx rfl
      have p2 := hc 2 _ hltx rfl
      have p3 := hc 3 _ hltx rfl
      have p4 := hc 4 _ hltx rfl
      have p5 := hc 5 _ hltx rfl
      have p6 := hc 6 _ hltx rfl
      have p7 := hc 7 _ hltx rfl
      rw [Nat.add_zero] at p0
      have i0 : (0 : Int) ≤ (k : Int) := by omega
      have i1 : (k : Int) < (n : Int) := by omega
      have HA := hid hacts
      have HP := hid hp
      have HFA := hid hfa
      have hbn : w.heap.size < wr.heap.size := blk_lt hbx.out
      clear hacts hp hfa hc ha hltx
      go_wp2_with fail
      refine (weight_any a.r a.A a.c _ (HP.out.step (Kp.al _ _)) HFA.out.small HFA.out.val).mono ?_
      rintro e w1 ⟨n1, rfl, hk1⟩
      have hbx1 := hk1.heap (blk_alloc hbx.out _) trivial
      have c1 := blk_cell hbx1
      have hbn1 : w.heap.size < w1.heap.size := blk_lt hbx1
      have HB1 := hid hbx1
      have HK1 := hid ((hkp.out.alloc _).trans hk1)
      clear hbx1 hk1 p0 p1 p2 p3 p4 p5 p6 p7
      by_cases h3 : 300 < wrap64 (y + n1)
      · have hd3 : decide (300 < wrap64 (y + n1)) = true := decide_eq_true h3
        clear h3
        go_wp2_with fail
        refine (lives_any _).mono ?_
        rintro e w2 ⟨rfl, hk2⟩
        have HK2 := hid hk2
        clear hk2
        go_wp2_with fail
        go_ret
        exact ⟨rfl, HK1.out.trans HK2.out⟩
      · have hd3 : decide (300 < wrap64 (y + n1)) = false := decide_eq_false h3
        clear h3
        go_wp2_with fail
        refine (weight_any x.r x.A x.c _ (HX.out.step HK1.out) HXF.out.small HXF.out.val).mono ?_
        rintro e w2 ⟨n2, rfl, hk2⟩
        have HB2 := hid (hk2.heap HB1.out trivial)
        have HK2 := hid (HK1.out.trans hk2)
        clear hk2 c1
        by_cases h4 : 100 < n2
        · have hd4 : decide (100 < n2) = true := decide_eq_true h4
          clear h4
          go_wp2_with fail
          refine (lives_any _).mono ?_
          rintro e w3 ⟨rfl, hk3⟩
          have HK3 := hid hk3
          clear hk3
          go_wp2_with fail
          go_ret
          exact ⟨rfl, HK2.out.trans HK3.out⟩
        · have hd4 : decide (100 < n2) = false := decide_eq_false h4
          clear h4
          go_wp2_with fail
          exact ⟨⟨k + 1, _, by omega, by go_num, rfl, HK2.out, HB2.out⟩, by simp [intOf]; omega⟩
    · have hb0 : decide ((k : Int) < (n : Int)) = false := decide_eq_false (by omega)
      go_wp2_with fail
      refine (new_any wr).mono ?_
      rintro e w1 ⟨⟨p, m, rfl, ht, hp, hm⟩, hk1⟩
      have T1 := hid (ht.mono (T := fun b => b ≠ m) (fun b _ h => h.elim))
      have HK1 := hid (hkp.out.trans hk1)
      have HB1 := hid (hk1.heap hbx.out trivial)
      have Hm : Hid (w.heap.size < m) := hid (by have := blk_lt hbx.out; omega)
      have Hp := hid hp
      clear ht hp hm hk1
      go_wp2_with fail
      refine (open_any _ p m [] 7 _ T1.out (fun h => h rfl)).mono ?_
      rintro e w2 ⟨rfl, ht, hk⟩
      rw [show openErr [] 7 = 0 from by decide]
      have T2 : Hid (Tab (fun b => b ≠ m) w2 p m [(7, 0, .z)]) := hid ht
      have K2 := hid (HK1.out.then hk (fun i hi _ e => by have := Hm.out; omega))
      have HB2 := hid (hk.heap HB1.out (by have := Hm.out; omega))
      have c2 := blk_cell HB2.out
      clear ht hk
      go_wp2_with fail
      refine (done_any _ p m _ 7 x.m x.r x.A x.c _ T2.out (fun h => h rfl) (fun b hb e => by have := T2.out.map_lt; omega) (HX.out.step K2.out) HXF.out.small).mono ?_
      rintro e w3 ⟨rfl, ht, hk⟩
      have T3 := hid ht
      have K3 := hid (K2.out.then hk (fun i hi _ e => by have := Hm.out; omega))
      have HB3 := hid (hk.heap HB2.out (by have := Hm.out; omega))
      have c3 := blk_cell HB3.out
      clear ht hk c2
      obtain ⟨er, her⟩ : ∃ er, doneErr [(7, 0, RD.z)] 7 x.m = er := ⟨_, rfl⟩
      obtain ⟨T0, hT0⟩ : ∃ T0, doneT [(7, 0, RD.z)] 7 x.m x.r = T0 := ⟨_, rfl⟩
      have E := hid (first7 x.m x.r her hT0)
      rw [her]
      rw [hT0] at T3
      clear her hT0
      go_wp2_with fail
      go_loopw [51] (fun i wq => ∃ (k : Nat), k ≤ n ∧ i = .int .i64 k ∧ Hid (Kp All w wq) ∧ Hid (wq.heap[w.heap.size]? = some (.cells (actCells x).toArray 28 (0, 0))) ∧ Hid (∃ T, Tab (fun b => b ≠ m) wq p m T ∧ Seven T x.m x.r er)) (fun i _ => n - (intOf i).toNat)
      case atStart => exact ⟨0, Nat.zero_le _, rfl, K3, HB3, ⟨_, T3.out, E.out⟩⟩
      case round =>
        clear T3 K3 HB3 c3 T2 K2 HB2 T1 HK1 HB1 hkp hbx hb0 hlt E
        obtain ⟨j, hj, rfl, hkp, hbx, hT⟩ := hrel
        have hbn : w.heap.size < wr.heap.size := blk_lt hbx.out
        by_cases hlt : j < n
        · have hb0 : decide ((j : Int) < (n : Int)) = true := decide_eq_true (by omega)
          have hltx : j < xs.length := by rw [HL.out]; exact hlt
          obtain ⟨b, o, eO, hacts⟩ := H.out (by rw [HL.out]; omega)
          subst eO
          obtain ⟨a, ha⟩ : ∃ a, xs.getD j default = a := ⟨_, rfl⟩
          have hc := (hacts.step hkp.out).now.cell j
          have hp : Foot All (Ps a.A a.c a.r.pairs) w := hacts.imp fun u hu => ha ▸ hu.pairs j hltx
          have hfa : Fine a.r := ha ▸ HF.out j hltx
          rw [ha] at hc
          have p0 := hc 0 _ hltx rfl
          have p1 := hc 1 _ hltx rfl
          have p2 := hc 2 _ hltx rfl
          have p3 := hc 3 _ hltx rfl
          have p4 := hc 4 _ hltx rfl
          have p5 := hc 5 _ hltx rfl
          have p6 := hc 6 _ hltx rfl
          have p7 := hc 7 _ hltx rfl
          rw [Nat.add_zero] at p0
          have i0 : (0 : Int) ≤ (j : Int) := by omega
          have i1 : (j : Int) < (n : Int) := by omega
          have HP := hid hp
          have HFA := hid hfa
          obtain ⟨T, hT1, hT7⟩ := hT.out
          have T4 := hid hT1
          have S4 := hid hT7
          clear hacts hp hfa hc ha hltx hT hT1 hT7
          by_cases h7 : a.n = 7
          · have hd7 : ((a.n : Int) == 7) = true := beq_iff_eq.2 h7
            have H7 := hid h7
            clear h7
            go_wp2_with fail
            exact ⟨⟨j + 1, by omega, by go_num, hkp.out.alloc _, blk_alloc hbx.out _, ⟨T, T4.out.all (Kp.al _ _), S4.out⟩⟩, by simp [intOf]; omega⟩
          · have hd7 : ((a.n : Int) == 7) = false := beq_eq_false_iff_ne.2 h7
            have H7 := hid h7
            clear h7
            go_wp2_with fail
            refine (open_any _ p m T a.n _ (T4.out.all (Kp.al _ _)) (fun h => h rfl)).mono ?_
            rintro e w4 ⟨rfl, ht, hk⟩
            have hmw := T4.out.map_lt
            have hab := hk.heap (blk_new wr _) (by omega)
            have c4 := blk_cell hab
            have hn4 : wr.heap.size < w4.heap.size := blk_lt hab
            have HAB := hid hab
            have hbx4 := hid (hk.heap (blk_alloc hbx.out _) (by have := Hm.out; omega))
            have T5 := hid ht
            have K5 := hid ((hkp.out.alloc _).then hk (fun i hi _ e => by have := Hm.out; omega))
            have S5 : Hid (Seven (openT T a.n) x.m x.r er) := hid (S4.out.of (open7 H7.out))
            clear ht hk hab T4 S4 p0 p1 p2 p3 p4 p5 p6 p7
            go_wp2_with fail
            refine (done_any _ p m _ a.n a.m a.r a.A a.c _ T5.out (fun h => h rfl) (fun b hb e => by have := T5.out.map_lt; omega) (HP.out.step K5.out) HFA.out.small).mono ?_
            rintro e w5 ⟨rfl, ht, hk⟩
            have hmw := T5.out.map_lt
            have hab := hk.heap HAB.out (by omega)
            have c5 := blk_cell hab
            have hbx5 := hid (hk.heap hbx4.out (by have := Hm.out; omega))
            have T6 := hid ht
            have K6 := hid (K5.out.then hk (fun i hi _ e => by have := Hm.out; omega))
            have S6 : Hid (Seven (doneT (openT T a.n) a.n a.m a.r) x.m x.r er) := hid (S5.out.of (done7 H7.out))
            clear ht hk hab T5 S5 c4 hmw
            by_cases h3 : a.kind = 3
            · have hd3 : ((a.kind : Int) == 3) = true := beq_iff_eq.2 h3
              clear h3
              go_wp2_with fail
              refine (expire_any _ p m _ a.n _ T6.out (fun h => h rfl)).mono ?_
              rintro e w6 ⟨rfl, ht, hk⟩
              have K7 := hid (K6.out.then hk (fun i hi _ e => by have := Hm.out; omega))
              have hbx6 := hid (hk.heap hbx5.out (by have := Hm.out; omega))
              have T7 := hid ht
              clear ht hk c5
              go_wp2_with fail
              exact ⟨⟨j + 1, by omega, by go_num, K7.out, hbx6.out, ⟨_, T7.out, S6.out.of (exp7 H7.out)⟩⟩, by simp [intOf]; omega⟩
            · have hd3 : ((a.kind : Int) == 3) = false := beq_eq_false_iff_ne.2 h3
              clear h3
              go_wp2_with fail
              exact ⟨⟨j + 1, by omega, by go_num, K6.out, hbx5.out, ⟨_, T6.out, S6.out⟩⟩, by simp [intOf]; omega⟩
        · have hb0 : decide ((j : Int) < (n : Int)) = false := decide_eq_false (by omega)
          have cb := blk_cell hbx.out
          obtain ⟨T, hT1, hT7⟩ := hT.out
          have T4 := hid hT1
          clear hT hT1
          rcases hT7 with ⟨rfl, h8, h9⟩ | ⟨rfl, h8, h9⟩
          · have hd8 : decide (0 < x.m) = true := decide_eq_true h8
            have ha0 : Hid (askErr T 7 x.m = 0) := hid (by rw [askErr, h9]; simp only; rw [if_neg (by omega), if_neg (by omega)])
            have ha1 : Hid (askR T 7 x.m = x.r) := hid (by rw [askR, if_pos ha0.out, h9]; rfl)
            clear h8 h9
            go_wp2_with fail
            refine (ask_any _ p m T 7 x.m _ T4.out).mono ?_
            rintro e w4 ⟨A4, c4, rfl, hf, hk⟩
            rw [ha0.out, ha1.out]
            rw [ha1.out] at hf
            have hab := hk.heap hbx.out trivial
            have c5 := blk_cell hab
            have hbn4 : w.heap.size < w4.heap.size := blk_lt hab
            have HF4 := hid (hf.mono (T := All) fun _ _ _ => trivial)
            have K4 := hid (hkp.out.trans hk)
            clear hf hk hab cb
            go_wp2_with fail
            refine (same09_eq x.r A4 x.A c4 x.c _ (HF4.out.step (Kp.al _ _)) (HX.out.step (K4.out.alloc _)) HXF.out.small).mono ?_
            rintro e w5 ⟨rfl, hk5⟩
            have K5 := hid ((K4.out.alloc _).trans hk5)
            clear hk5
            go_wp2_with fail
            refine (lives_any _).mono ?_
            rintro e w6 ⟨rfl, hk6⟩
            have K6 := hid (K5.out.trans hk6)
            clear hk6
            go_wp2_with fail
            go_ret
            exact ⟨rfl, K6.out⟩
          · have hd8 : decide (0 < x.m) = false := decide_eq_false h8
            have ha0 : Hid (askErr T 7 x.m = 15) := hid (by rw [askErr, h9]; simp only; rw [if_pos (by omega)])
            have ha1 : Hid (askR T 7 x.m = .z) := hid (by rw [askR, ha0.out]; rfl)
            clear h8 h9
            go_wp2_with fail
            refine (ask_any _ p m T 7 x.m _ T4.out).mono ?_
            rintro e w4 ⟨A4, c4, rfl, hf, hk⟩
            rw [ha0.out, ha1.out]
            have K4 := hid (hkp.out.trans hk)
            clear hf hk cb
            go_wp2_with fail
            refine (lives_any _).mono ?_
            rintro e w6 ⟨rfl, hk6⟩
            have K6 := hid ((K4.out.alloc _).trans hk6)
            clear hk6
            go_wp2_with fail
            go_ret
            exact ⟨rfl, K6.out⟩
end Go.Proofs.Ytkipijdbkkcioaa
