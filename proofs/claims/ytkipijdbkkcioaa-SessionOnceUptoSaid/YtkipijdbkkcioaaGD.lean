/- SessionOnce: the walk. No condition but that the acts are not great. -/
import Derived.Test.YtkipijdbkkcioaaGC
import Derived.Test.YtkipijdbkkcioaaCT
namespace Go.Proofs.Ytkipijdbkkcioaa
open Go.RowKit
set_option linter.unusedVariables false
set_option linter.unusedSimpArgs false
/-- An act whose texts may be read back. -/
def AcSz (a : AD) : Prop := a.r.val.size < 2 ^ 64 ∧ ∀ p ∈ a.r.pairs, p.1.size < 2 ^ 64 ∧ p.2.size < 2 ^ 64
theorem wr_z {id : Int} (h1 : -9223372036854775808 ≤ id) (h2 : id ≤ 9223372036854775807) : Wr (id, 0, RD.z) := ⟨enOk_z h1 h2, Int.le_refl _, (by decide : RD.z.val.size < 2 ^ 64), (by simp [RD.z] : ∀ p ∈ RD.z.pairs, p.1.size < 2 ^ 64 ∧ p.2.size < 2 ^ 64)⟩
theorem wr_act {id : Int} {a : AD} (h1 : -9223372036854775808 ≤ id) (h2 : id ≤ 9223372036854775807) (ha : AcOk a) (hs : AcSz a) (hm : 0 ≤ a.m) : Wr (id, a.m, a.r) :=
  ⟨⟨h1, h2, ha.2.2.2.2.1, ha.2.2.2.2.2, ha.2.1, ha.2.2.1⟩, hm, hs.1, hs.2⟩
theorem aget_one (id last : Int) (r : RD) : aget [(id, last, r)] id = some (last, r) := by simp [aget]
theorem encTab_one (id last : Int) (r : RD) : encTab [(id, last, r)] [id] = enc 1 ++ [(id, last, r)].flatMap encEntry := by
  rw [encTab, encIds, List.flatMap_cons, entryOf, aget_one]; rfl
theorem read_one {id last : Int} {r : RD} (h : Wr (id, last, r)) (h0 : 0 < id) : readTab (encTab [(id, last, r)] [id]) = some [(id, last, r)] := by
  rw [encTab_one]
  exact readTab_enc [(id, last, r)] (by simp) (by simpa using h) (by simpa using h0) (by simp [keysL])
theorem len_one {id last : Int} {r : RD} (h : Wr (id, last, r)) : (encTab [(id, last, r)] [id]).length ≤ 1000000000000 := by
  rw [encTab_one]
  have h1 := enc_len_le 1
  have h2 := encEntry_le h.1
  simp only [List.length_append, List.flatMap_cons, List.flatMap_nil, List.append_nil]
  omega
theorem perm_one {id last : Int} {r : RD} {ks : List Int} (h : ks.Perm ([(id, last, r)].map (·.1))) : ks = [id] := by
  simpa using h
theorem done_one (id last : Int) (r r' : RD) (seq : Int) : doneErr [(id, last, r)] id seq = (if seq ≤ last then 15 else 0) ∧ doneT [(id, last, r)] id seq r' = (if seq ≤ last then [(id, last, r)] else [(id, seq, r')]) := by
  have h := aget_one id last r
  unfold doneT doneErr
  rw [h]
  by_cases hs : seq ≤ last
  · simp [hs]
  · simp [hs, aset, h]
theorem ask_one (id last seq : Int) (r : RD) : askErr [(id, last, r)] id seq = (if seq < max last 1 then 15 else if last < seq then 4 else 0) ∧ askR [(id, last, r)] id seq = (if seq < max last 1 then .z else if last < seq then .z else r) := by
  have h := aget_one id last r
  unfold askR askErr
  rw [h]
  by_cases h1 : seq < max last 1
  · simp [h1]
  · by_cases h2 : last < seq
    · simp [h1, h2]
    · simp [h1, h2]
theorem rb_foot {w : World} {base e : Nat} {v : Value} {xs : By} (h : w.ownsRow base e 1 v xs.length (u8s xs)) : Foot All (Rb v xs) w := fun u hu => own_rb (own_kept h hu fun _ _ => trivial)
/-- One session, its last seq and reply; the law's own copy of the reply in block bq. -/
structure ON (w0 : World) (id : Int) (p m bq : Nat) (last : Int) (r : RD) (A : Option Addr) (c : Nat) (W : World) : Prop where
  tab : Tab (fun b => b ≠ m ∧ b ≠ p ∧ b ≠ bq) W p m [(id, last, r)]
  box : W.heap[bq]? = some (.cells #[.int .i64 r.err, .bool r.found, .string r.val, .int .i64 r.sess, .slice A r.pairs.length c] 26 (0, 0))
  ps : Foot (fun b => b < w0.heap.size) (Ps A c r.pairs) W
  kp : Kp All w0 W
  wr : Wr (id, last, r)
  hp : w0.heap.size ≤ p
  hm : w0.heap.size ≤ m
  hb : w0.heap.size ≤ bq
  np : p ≠ bq
  nm : m ≠ bq
theorem ON.all {w0 W W' : World} {id : Int} {p m bq : Nat} {last : Int} {r : RD} {A : Option Addr} {c : Nat} (h : ON w0 id p m bq last r A c W) (k : Kp All W W') : ON w0 id p m bq last r A c W' :=
  ⟨h.tab.all k, k.heap h.box trivial, h.ps.step k.all, h.kp.trans k, h.wr, h.hp, h.hm, h.hb, h.np, h.nm⟩
theorem ON.lt {w0 W : World} {id : Int} {p m bq : Nat} {last : Int} {r : RD} {A : Option Addr} {c : Nat} (h : ON w0 id p m bq last r A c W) : p < W.heap.size ∧ m < W.heap.size ∧ bq < W.heap.size := ⟨blk_lt h.tab.cell, h.tab.map_lt, blk_lt h.box⟩
theorem ON.new {w0 W : World} {id : Int} {p m bq : Nat} {last : Int} {r : RD} {A : Option Addr} {c : Nat} (h : ON w0 id p m bq last r A c W) : ∀ b, W.heap.size ≤ b → (fun b => b ≠ m ∧ b ≠ p ∧ b ≠ bq) b := fun b hb => by
  obtain ⟨h1, h2, h3⟩ := h.lt
  exact ⟨by omega, by omega, by omega⟩
set_option maxRecDepth 100000 in
set_option maxHeartbeats 8000000 in
theorem once_true (id : Int) (O : Option Addr) (c : Nat) (xs : List AD) (w : World) (hid1 : -9223372036854775808 ≤ id) (hid2 : id ≤ 9223372036854775807) (hn : xs.length ≤ 9223372036854775806) (h : 0 < xs.length → ∃ b o, O = some ⟨b, o, none⟩ ∧ Foot All (Acts b o xs) w) (hf : ∀ k, k < xs.length → AcOk (xs.getD k default) ∧ AcSz (xs.getD k default)) :
    Calls Try.prog 7 #[.int .i64 id, .slice O xs.length c] w fun e w' => e = .returned (.bool true) ∧ Kp All w w' := by
  have H := hid h
  have HF := hid hf
  clear h hf
  obtain ⟨n, hl⟩ : ∃ n, xs.length = n := ⟨_, rfl⟩
  have HL := hid hl
  rw [hl] at hn ⊢
  clear hl
  go_enter Try.func7, Try.ntmps7
  go_wp2_with fail
  go_loopw [5, 26] (fun x2 i wr => ∃ (k : Nat) (y : Int), k ≤ n ∧ i = .int .i64 k ∧ x2 = .int .i64 y ∧ Hid (Kp All w wr)) (fun _ i _ => n - (intOf i).toNat)
  case atStart => exact ⟨0, _, Nat.zero_le _, rfl, rfl, Kp.refl _ _⟩
  case round =>
    obtain ⟨k, y, hk, rfl, rfl, hkp⟩ := hrel
    by_cases hlt : k < n
    · have hb0 : decide ((k : Int) < (n : Int)) = true := decide_eq_true (by omega)
      have hltx : k < xs.length := by rw [HL.out]; exact hlt
      obtain ⟨b, o, eO, hacts⟩ := H.out (by rw [HL.out]; omega)
      subst eO
      obtain ⟨a, ha⟩ : ∃ a, xs.getD k default = a := ⟨_, rfl⟩
      have hc := (hacts.step hkp.out).now.cell k
      have hp : Foot All (Ps a.A a.c a.r.pairs) wr := (hacts.step hkp.out).imp fun u hu => ha ▸ hu.pairs k hltx
      have hfa : Fine a.r := ha ▸ (HF.out k hltx).1.1
      rw [ha] at hc
      have p0 := hc 0 _ hltx rfl
      have p1 := hc 1 _ hltx rfl
      have p2 := hc 2 _ hltx rfl
      have p3 := hc 3 _ hltx rfl
      have p4 := hc 4 _ hltx rfl
      have p5 := hc 5 _ hltx rfl
      have p6 := hc 6 _ hltx rfl
      have p7 := hc 7 _ hltx rfl
      rw [Nat.add_zero] at p0
      have i0 : (0 : Int) ≤ (k : Int) := by omega
      have i1 : (k : Int) < (n : Int) := by omega
      have HA := hid hacts
      have HP := hid hp
      have HFA := hid hfa
      clear hacts hp hfa hc ha hltx
      go_wp2_with fail
      refine (weight_any a.r a.A a.c _ (HP.out.step (Kp.al _ _)) HFA.out.small HFA.out.val).mono ?_
      rintro e w1 ⟨n1, rfl, hk1⟩
      have HK1 := hid ((hkp.out.alloc _).trans hk1)
      clear hk1 p0 p1 p2 p3 p4 p5 p6 p7
      by_cases h3 : 400 < wrap64 (y + n1)
      · have hd3 : decide (400 < wrap64 (y + n1)) = true := decide_eq_true h3
        clear h3
        go_wp2_with fail
        refine (lives_any _).mono ?_
        rintro e w2 ⟨rfl, hk2⟩
        have HK2 := hid hk2
        clear hk2
        go_wp2_with fail
        go_ret
        exact ⟨rfl, HK1.out.trans HK2.out⟩
      · have hd3 : decide (400 < wrap64 (y + n1)) = false := decide_eq_false h3
        clear h3
        go_wp2_with fail
        exact ⟨⟨k + 1, _, by omega, by go_num, rfl, HK1.out⟩, by simp [intOf]; omega⟩
    · have hb0 : decide ((k : Int) < (n : Int)) = false := decide_eq_false (by omega)
      go_wp2_with fail
      refine (new_any wr).mono ?_
      rintro e w1 ⟨⟨p, m, rfl, ht, hp, hm⟩, hk1⟩
      have T1 := hid (ht.mono (T := fun b => b ≠ m ∧ b ≠ p) (fun b _ h => h.elim))
      have K1 := hid (hkp.out.trans hk1)
      have Hp := hid hp; have Hm := hid hm
      have Hws := hid hkp.out.size
      clear ht hk1 hp hm
      go_wp2_with fail
      refine (open_any _ p m [] id _ T1.out (fun h => h.1 rfl)).mono ?_
      rintro e w2 ⟨rfl, ht2, hk2⟩
      have K2 := hid (K1.out.then hk2 (fun i hi _ e => by have := Hm.out; have := Hws.out; omega))
      by_cases hi1 : id < 1
      · have he : openErr [] id = 2 := by rw [openErr, if_pos hi1]
        rw [he]
        have d1 : decide (id < 1) = true := decide_eq_true hi1
        clear ht2 hk2
        go_wp2_with fail
        refine (lives_any _).mono ?_
        rintro e w3 ⟨rfl, hk3⟩
        have HK3 := hid hk3
        clear hk3
        go_wp2_with fail
        go_ret
        exact ⟨rfl, K2.out.trans HK3.out⟩
      · have he : openErr [] id = 0 := by rw [openErr, if_neg hi1]; rfl
        have hT : openT [] id = [(id, 0, RD.z)] := by rw [openT, if_pos he]; rfl
        rw [he]
        rw [hT] at ht2
        have T2 := hid ht2
        have HI := hid (show 0 < id by omega)
        clear ht2 hk2 hi1 he hT T1
        go_wp2_with fail
        obtain ⟨bq, hbq⟩ : ∃ bq, w2.heap.size = bq := ⟨_, rfl⟩
        have hON : ON w id p m bq 0 RD.z none 0 (w2.alloc (Obj.cells #[.int .i64 0, .bool false, .string ⟨#[]⟩, .int .i64 0, .slice none 0 0] 26)) := by
          have h1 := blk_lt T2.out.cell
          have h2 := T2.out.map_lt
          have h3 := Hp.out; have h4 := Hm.out; have h5 := Hws.out; have h6 := K2.out.size
          exact ⟨(T2.out.mono (T := fun b => b ≠ m ∧ b ≠ p ∧ b ≠ bq) (fun b hb hS => ⟨hS.1, hS.2, by omega⟩)).all (Kp.al _ _), by rw [← hbq]; exact blk_new _ _, ps_nil _ _, K2.out.alloc _, wr_z hid1 hid2, by omega, by omega, by omega, by omega, by omega⟩
        have ON0 := hid hON
        rw [hbq]
        clear hON T2 K2 Hp Hm Hws K1 hkp hbq
        go_loopw [9, 59] (fun la i wr => ∃ (k : Nat) (last : Int) (r : RD) (A : Option Addr) (ca : Nat), k ≤ n ∧ i = .int .i64 k ∧ la = .int .i64 last ∧ Hid (ON w id p m bq last r A ca wr)) (fun _ i _ => n - (intOf i).toNat)
        case atStart => exact ⟨0, 0, RD.z, none, 0, Nat.zero_le _, rfl, rfl, ON0⟩
        case round =>
          clear ON0 hb0 hlt
          obtain ⟨k, last, r, A, ca, hk, rfl, rfl, HO⟩ := hrel
          by_cases hlt : k < n
          · have hb0 : decide ((k : Int) < (n : Int)) = true := decide_eq_true (by omega)
            have hltx : k < xs.length := by rw [HL.out]; exact hlt
            obtain ⟨b, o, eO, hacts⟩ := H.out (by rw [HL.out]; omega)
            subst eO
            obtain ⟨a, ha⟩ : ∃ a, xs.getD k default = a := ⟨_, rfl⟩
            have hc := (hacts.step HO.out.kp).now.cell k
            have hp : Foot All (Ps a.A a.c a.r.pairs) w := hacts.imp fun u hu => ha ▸ hu.pairs k hltx
            have hfa := ha ▸ HF.out k hltx
            rw [ha] at hc
            have p0 := hc 0 _ hltx rfl
            have p1 := hc 1 _ hltx rfl
            have p2 := hc 2 _ hltx rfl
            have p3 := hc 3 _ hltx rfl
            have p4 := hc 4 _ hltx rfl
            have p5 := hc 5 _ hltx rfl
            have p6 := hc 6 _ hltx rfl
            have p7 := hc 7 _ hltx rfl
            rw [Nat.add_zero] at p0
            have i0 : (0 : Int) ≤ (k : Int) := by omega
            have i1 : (k : Int) < (n : Int) := by omega
            have HP := hid hp
            have HFA := hid hfa
            clear hacts hp hfa hc ha hltx
            go_wp2_with fail
            have O1 := hid (HO.out.all (Kp.al wr (Obj.cells #[.int .i64 a.kind, .int .i64 a.n, .int .i64 a.m, .int .i64 a.r.err, .bool a.r.found, .string a.r.val, .int .i64 a.r.sess, .slice a.A a.r.pairs.length a.c] 28)))
            refine (done_any _ p m _ id a.m a.r a.A a.c _ O1.out.tab (fun h => h.1 rfl) O1.out.new (HP.out.step O1.out.kp) HFA.out.1.1.small).mono ?_
            rw [(done_one id last r a.r a.m).1, (done_one id last r a.r a.m).2]
            rintro e w3 ⟨rfl, ht3, hk3⟩
            have bA := hk3.heap (blk_new wr (Obj.cells #[.int .i64 a.kind, .int .i64 a.n, .int .i64 a.m, .int .i64 a.r.err, .bool a.r.found, .string a.r.val, .int .i64 a.r.sess, .slice a.A a.r.pairs.length a.c] 28)) (show wr.heap.size ≠ m by have := HO.out.lt.2.1; omega)
            have cA := blk_cell bA
            have hAl := blk_lt bA
            have hbx := hk3.heap O1.out.box (show bq ≠ m from Ne.symm HO.out.nm)
            have HBX := hid hbx
            have HK3 := hid hk3
            have Hbl := hid (show bq ≠ wr.heap.size by have := HO.out.lt.2.2; omega)
            clear hk3 p0 p1 p2 p3 p4 p5 p6 p7
            have hcase : a.m ≤ last ∨ ¬ a.m ≤ last := by omega
            refine or2 hcase ?cA ?cB
            case' cA =>
              intro hle
              rw [if_pos hle] at ht3 ⊢
              have d1 : decide (a.m > last) = false := decide_eq_false (by omega)
              have hO3 : ON w id p m bq last r A ca w3 := by
                have hx := O1.out
                exact ⟨ht3, hbx, hx.ps.step (HK3.out.mono fun b _ hb e => by have h : b < w.heap.size := hb; have := hx.hm; omega), hx.kp.then HK3.out (fun i hi _ e => by have := hx.hm; omega), hx.wr, hx.hp, hx.hm, hx.hb, hx.np, hx.nm⟩
              obtain ⟨L2, R2, A2, C2, e1, e2, e3, e4⟩ : ∃ L2 R2 A2 C2, L2 = last ∧ R2 = r ∧ A2 = A ∧ C2 = ca := ⟨_, _, _, _, rfl, rfl, rfl, rfl⟩
              subst e1 e2 e3 e4
              have O2 := hid hO3
              clear hO3 ht3 hbx O1 HO HK3 HBX
              go_wp2_with fail
            case' cB =>
              intro hle
              rw [if_neg hle] at ht3 ⊢
              have d1 : decide (a.m > last) = true := decide_eq_true (by omega)
              have cB := blk_cell hbx
              have fB := blk_free hbx
              have HT3 := hid ht3
              clear ht3 hbx
              go_wp2_with fail
              go_region
              have hO3 : ON w id p m bq a.m a.r a.A a.c ((((((w3).setCell ⟨bq, 0, none⟩ (.int .i64 a.r.err)).setCell ⟨bq, 1, none⟩ (.bool a.r.found)).setCell ⟨bq, 2, none⟩ (.string a.r.val)).setCell ⟨bq, 3, none⟩ (.int .i64 a.r.sess)).setCell ⟨bq, 4, none⟩ (.slice a.A a.r.pairs.length a.c)).drew := by
                have hx := O1.out
                have k5 : Kp (fun b => b ≠ bq) w3 ((((((w3).setCell ⟨bq, 0, none⟩ (.int .i64 a.r.err)).setCell ⟨bq, 1, none⟩ (.bool a.r.found)).setCell ⟨bq, 2, none⟩ (.string a.r.val)).setCell ⟨bq, 3, none⟩ (.int .i64 a.r.sess)).setCell ⟨bq, 4, none⟩ (.slice a.A a.r.pairs.length a.c)).drew := ((((((Kp.refl _ _).setOut (by simp) _).setOut (by simp) _).setOut (by simp) _).setOut (by simp) _).setOut (by simp) _).drew
                have hb5 : (((((((w3).setCell ⟨bq, 0, none⟩ (.int .i64 a.r.err)).setCell ⟨bq, 1, none⟩ (.bool a.r.found)).setCell ⟨bq, 2, none⟩ (.string a.r.val)).setCell ⟨bq, 3, none⟩ (.int .i64 a.r.sess)).setCell ⟨bq, 4, none⟩ (.slice a.A a.r.pairs.length a.c)).drew).heap[bq]? = some (.cells #[.int .i64 a.r.err, .bool a.r.found, .string a.r.val, .int .i64 a.r.sess, .slice a.A a.r.pairs.length a.c] 26 (0, 0)) := by
                  have h := blk_set (blk_set (blk_set (blk_set (blk_set HBX.out 0 (.int .i64 a.r.err)) 1 (.bool a.r.found)) 2 (.string a.r.val)) 3 (.int .i64 a.r.sess)) 4 (.slice a.A a.r.pairs.length a.c)
                  simp only [List.setIfInBounds_toArray, List.set_cons_zero, List.set_cons_succ] at h
                  exact h
                have hk3 : Kp All w w3 := hx.kp.then HK3.out (fun i hi _ e => by have := hx.hm; omega)
                have hk4 : Kp All w ((((((w3).setCell ⟨bq, 0, none⟩ (.int .i64 a.r.err)).setCell ⟨bq, 1, none⟩ (.bool a.r.found)).setCell ⟨bq, 2, none⟩ (.string a.r.val)).setCell ⟨bq, 3, none⟩ (.int .i64 a.r.sess)).setCell ⟨bq, 4, none⟩ (.slice a.A a.r.pairs.length a.c)).drew := hk3.then k5 (fun i hi _ e => by have := hx.hb; omega)
                have hwr0 : 0 ≤ a.m := by have : 0 ≤ last := hx.wr.2.1; omega
                exact ⟨HT3.out.kept k5 hx.np hx.nm (fun b _ hb => hb.2.2), hb5, (HP.out.mono (T := fun b => b < w.heap.size) (fun b hb _ => hb)).step hk4.all, hk4, wr_act hid1 hid2 HFA.out.1 HFA.out.2 hwr0, hx.hp, hx.hm, hx.hb, hx.np, hx.nm⟩
              obtain ⟨wX, hwX⟩ : ∃ wX, wX = ((((((w3).setCell ⟨bq, 0, none⟩ (.int .i64 a.r.err)).setCell ⟨bq, 1, none⟩ (.bool a.r.found)).setCell ⟨bq, 2, none⟩ (.string a.r.val)).setCell ⟨bq, 3, none⟩ (.int .i64 a.r.sess)).setCell ⟨bq, 4, none⟩ (.slice a.A a.r.pairs.length a.c)).drew := ⟨_, rfl⟩
              rw [← hwX] at hO3 ⊢
              obtain ⟨L2, R2, A2, C2, e1, e2, e3, e4⟩ : ∃ L2 R2 A2 C2, a.m = L2 ∧ a.r = R2 ∧ a.A = A2 ∧ a.c = C2 := ⟨_, _, _, _, rfl, rfl, rfl, rfl⟩
              rw [e1, e2, e3, e4] at hO3
              rw [e1]
              clear hwX e1 e2 e3 e4 cB fB
              have O2 := hid hO3
              clear hO3 O1 HO HK3 HBX HT3
              rename World => w3
              go_wp2_with fail
            all_goals (
              have hwr := O2.out.wr
              have HWR := hid hwr
              have hl0 : 0 ≤ L2 := hwr.2.1
              have hsm : small R2 := by have h1 : R2.pairs.length ≤ 1000000000000 := hwr.1.2.2.2.2.1.n; unfold small; omega
              have HSM := hid hsm
              clear hwr hsm
              refine (bytes_any _ p m [(id, L2, R2)] (by intro x hx; rw [List.mem_singleton.1 hx]; exact HWR.out.1) (by simp) _ O2.out.tab).mono ?_
              rintro e w4 ⟨ks, hpk, hsk, ⟨v4, rfl, h4⟩, k4⟩
              obtain rfl := perm_one hpk
              have O4 := hid (O2.out.all k4)
              have HB4 := hid h4
              clear hpk hsk h4 k4 O2
              go_wp2_with fail
              refine (sread_any v4 (encTab [(id, L2, R2)] [id]) _ (rb_foot HB4.out) (len_one HWR.out)).mono ?_
              rintro e w5 ⟨⟨T5, p5, m5, hr5, rfl, ht5, hp5, hm5⟩ | ⟨hno, rfl⟩, k5⟩
              rotate_left
              · rw [read_one HWR.out HI.out] at hno; cases hno
              rw [read_one HWR.out HI.out] at hr5
              injection hr5 with hr5
              subst hr5
              have O5 := hid (O4.out.all k5)
              have HT5 := hid ht5
              clear ht5 hp5 hm5 k5 O4 HB4
              by_cases h0 : L2 = 0
              · have d0 : ((L2 : Int) == 0) = true := by simp [h0]
                go_wp2_with fail
                exact ⟨⟨k + 1, L2, R2, A2, C2, by omega, by go_num, by rw [h0], O5⟩, by simp [intOf]; omega⟩
              · have d0 : ((L2 : Int) == 0) = false := by simp [h0]
                have ha := ask_one id L2 L2 R2
                rw [if_neg (by omega), if_neg (by omega), if_neg (by omega), if_neg (by omega)] at ha
                have HA := hid ha
                clear ha
                go_wp2_with fail
                refine (ask_any _ p m _ id L2 _ O5.out.tab).mono ?_
                rintro e w6 ⟨A6, c6, rfl, hf6, k6⟩
                rw [HA.out.1, HA.out.2]
                rw [HA.out.2] at hf6
                have O6 := hid (O5.out.all k6)
                have HF6 := hid (hf6.mono (T := All) (fun _ _ _ => trivial))
                have HT6 := hid (HT5.out.all k6)
                clear hf6 k6 O5 HT5
                go_wp2_with fail
                have k7 := Kp.al w6 (Obj.cells #[.int .i64 R2.err, .bool R2.found, .string R2.val, .int .i64 R2.sess, .slice A6 R2.pairs.length c6] 26)
                have b7 := blk_new w6 (Obj.cells #[.int .i64 R2.err, .bool R2.found, .string R2.val, .int .i64 R2.sess, .slice A6 R2.pairs.length c6] 26)
                refine (ask_any _ p5 m5 _ id L2 _ (HT6.out.all k7)).mono ?_
                rintro e w8 ⟨A8, c8, rfl, hf8, k8⟩
                rw [HA.out.1, HA.out.2]
                rw [HA.out.2] at hf8
                have O8 := hid (O6.out.all (k7.trans k8))
                have HF8 := hid (hf8.mono (T := All) (fun _ _ _ => trivial))
                have HT8 := hid (HT6.out.all (k7.trans k8))
                have b8 := k8.heap b7 trivial
                have c8' := blk_cell b8
                have hs8 : w6.heap.size < w8.heap.size := blk_lt b8
                have HF6' := hid (HF6.out.step (k7.trans k8))
                have cB8 := blk_cell O8.out.box
                have hbl8 := O8.out.lt.2.2
                have HB8 := hid b8
                clear hf8 k7 k8 b7 b8 HF6 O6 HT6
                go_wp2_with fail
                have k9 := Kp.al w8 (Obj.cells #[.int .i64 R2.err, .bool R2.found, .string R2.val, .int .i64 R2.sess, .slice A8 R2.pairs.length c8] 26)
                have b9 := blk_new w8 (Obj.cells #[.int .i64 R2.err, .bool R2.found, .string R2.val, .int .i64 R2.sess, .slice A8 R2.pairs.length c8] 26)
                have O9 := hid (O8.out.all k9)
                have HT9 := hid (HT8.out.all k9)
                refine (same09_eq R2 A6 A2 c6 C2 _ (HF6'.out.step k9) ((O9.out.ps).mono fun _ _ _ => trivial) HSM.out).mono ?_
                rintro e w10 ⟨rfl, k10⟩
                have b10 := k10.heap b9 trivial
                have c10 := blk_cell b10
                have O10 := hid (O9.out.all k10)
                have HT10 := hid (HT9.out.all k10)
                have cB10 := blk_cell O10.out.box
                have HF10 := hid (HF8.out.step (k9.trans k10))
                clear k9 b9 O9 HT9 k10 b10 O8 HT8 HF8 HB8 c8' cB8
                go_wp2_with fail
                refine (same09_eq R2 A8 A2 c8 C2 _ HF10.out ((O10.out.ps).mono fun _ _ _ => trivial) HSM.out).mono ?_
                rintro e w11 ⟨rfl, k11⟩
                have O11 := hid (O10.out.all k11)
                have HT11 := hid (HT10.out.all k11)
                have hl1 : IntKind.i64.wrap (L2 - 1) = L2 - 1 := IntWalk.i64_in _ (by have := HWR.out.1.2.2.2.1; have h2 : L2 ≤ 9223372036854775807 := this; omega)
                have hb := ask_one id L2 (L2 - 1) R2
                rw [if_pos (by omega), if_pos (by omega)] at hb
                have HBB := hid hb
                clear k11 O10 HT10 HF10 hb cB10 c10
                go_wp2_with fail
                refine (ask_any _ p5 m5 _ id (L2 - 1) _ HT11.out).mono ?_
                rintro e w12 ⟨A12, c12, rfl, hf12, k12⟩
                rw [HBB.out.1, HBB.out.2]
                have O12 := hid (O11.out.all k12)
                clear hf12 k12 O11 HT11
                go_wp2_with fail
                exact ⟨⟨k + 1, L2, R2, A2, C2, by omega, by go_num, rfl, O12.out.all (Kp.al _ _)⟩, by simp [intOf]; omega⟩)
          · have hb0 : decide ((k : Int) < (n : Int)) = false := decide_eq_false (by omega)
            have hb := ask_one id last 0 r
            rw [if_pos (by have : 0 ≤ last := HO.out.wr.2.1; omega), if_pos (by have : 0 ≤ last := HO.out.wr.2.1; omega)] at hb
            have HBB := hid hb
            clear hb
            go_wp2_with fail
            refine (ask_any _ p m _ id 0 _ HO.out.tab).mono ?_
            rintro e w3 ⟨A3, c3, rfl, hf3, k3⟩
            rw [HBB.out.1, HBB.out.2]
            have O3 := hid (HO.out.all k3)
            clear hf3 k3
            go_wp2_with fail
            have O4 := hid (O3.out.all (Kp.al w3 (.cells #[.int .i64 RD.z.err, .bool RD.z.found, .string RD.z.val, .int .i64 RD.z.sess, .slice A3 RD.z.pairs.length c3] 26)))
            refine (expire_any _ p m _ id _ O4.out.tab (fun h => h.1 rfl)).mono ?_
            have he1 : expErr [(id, last, r)] id = 0 := by rw [expErr, aget_one]; rfl
            have he2 : expT [(id, last, r)] id = [] := by rw [expT, aget_one]; simp [adel]
            rw [he1, he2]
            rintro e w5 ⟨rfl, ht5, k5⟩
            have b5 := k5.heap O4.out.box (show bq ≠ m from Ne.symm O4.out.nm)
            have c5 := blk_cell b5
            have HT5 := hid ht5
            have HK5 := hid (O4.out.kp.then k5 (fun i hi _ (e : i = m) => by have := O4.out.hm; omega))
            have hps := (O4.out.ps.step (k5.mono fun b _ hb (e : b = m) => by have h : b < w.heap.size := hb; have := O4.out.hm; omega))
            have HPS := hid (hps.mono (T := All) fun _ _ _ => trivial)
            have HNEW := hid (show ∀ b, w5.heap.size ≤ b → (fun b => b ≠ m ∧ b ≠ p ∧ b ≠ bq) b from fun b hb => by
              have h1 := blk_lt ht5.cell; have h2 := ht5.map_lt; have h3 := blk_lt b5
              exact ⟨by omega, by omega, by omega⟩)
            have HSM := hid (show small r by have h1 : r.pairs.length ≤ 1000000000000 := HO.out.wr.1.2.2.2.2.1.n; unfold small; omega)
            clear ht5 k5 b5 hps
            go_wp2_with fail
            refine (done_any _ p m [] id 4611686018427387904 r A ca _ HT5.out (fun h => h.1 rfl) HNEW.out HPS.out HSM.out).mono ?_
            rintro e w6 ⟨rfl, ht6, k6⟩
            have hd : doneErr [] id 4611686018427387904 = 14 := rfl
            rw [hd]
            have HK6 := hid (HK5.out.then k6 (fun i hi _ (e : i = m) => by have := O4.out.hm; omega))
            clear ht6 k6 hd
            go_wp2_with fail
            refine (lives_any _).mono ?_
            rintro e w7 ⟨rfl, k7⟩
            have HK7 := hid (HK6.out.trans k7)
            clear k7
            go_wp2_with fail
            go_ret
            exact ⟨rfl, HK7.out⟩
end Go.Proofs.Ytkipijdbkkcioaa
