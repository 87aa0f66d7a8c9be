/- The functions made, find, New, Open, copied and slices.Clone of the session layer: what each leaves, walked once each. No condition on the table but that it lies as Tab says. -/
import Derived.Test.YtkipijdbkkcioaaK0
namespace Go.Proofs.Ytkipijdbkkcioaa
open Go.RowKit
theorem intKey : KeyEnc Try.prog 3 (.int .i64) (fun k : Int => Value.int .i64 k) := ⟨Try.underlying3, fun _ => rfl, fun _ _ h => by injection h⟩
abbrev IMap := KMap (fun k : Int => Value.int .i64 k)
theorem el67 : El Try.prog 24 67 2 32 (.agg #[.string ⟨#[]⟩, .string ⟨#[]⟩]) := ⟨Try.underlying24, by kernel_rfl, rfl, by decide, by decide⟩

/-- pairs as cells -/
def pcs (ps : List (ByteArray × ByteArray)) : List Value := ps.flatMap fun p => [.string p.1, .string p.2]
theorem pcs_one (ps : List (ByteArray × ByteArray)) : ∀ u ∈ pcs ps, u.oneCell' = true := by
  intro u hu
  simp only [pcs, List.mem_flatMap] at hu
  obtain ⟨p, _, hp⟩ := hu
  simp at hp
  rcases hp with rfl | rfl <;> rfl

set_option maxRecDepth 100000 in
theorem clone67_any (A : Option Addr) (n c : Nat) (xs : List Value) (w : World) (h : Foot All (Sl A n c 2 xs) w) (hn : n * 32 ≤ 140737488355328) (h1 : ∀ u ∈ xs, u.oneCell' = true) :
    Calls Try.prog 46 #[.slice A n c] w fun e w' => (∃ A' c', e = .returned (.slice A' n c') ∧ Foot (fun b => w.heap.size ≤ b) (Sl A' n c' 2 xs) w') ∧ Kp All w w' := by
  have H := hid h
  have H1 := hid h1
  clear h h1
  have hq := fun (w : World) (A : Option Addr) (n c : Nat) => Lib.run_eql_slice_nil (P := Try.prog) w 24 67 A n c 0 0 Try.underlying24
  have hbs := fun (w : World) => run_build0 (w := w) el67
  by_cases hA : A = none
  · subst hA
    have hn0 : n = 0 := by
      rcases Nat.eq_zero_or_pos n with h | h
      · exact h
      · obtain ⟨_, _, e, _⟩ := H.out.now.2.2 h; cases e
    subst hn0
    go_enter Try.func46, Try.ntmps46
    go_wp2
    go_ret
    exact ⟨⟨none, 0, rfl, fun u _ => ⟨H.out.now.1, Nat.le_refl _, fun h => absurd h (by omega)⟩⟩, Kp.refl _ _⟩
  · obtain ⟨a, rfl⟩ := Option.ne_none_iff_exists'.1 hA
    go_enter Try.func46, Try.ntmps46
    go_wp2_with (at_builtin; refine wpList_app el67 (own_build0 (base := w.heap.size) (Nat.le_refl _)) ((H.out.step ((Kp.refl _ _).alloc _)).now) H1.out (by omega) (by simp) rfl _ _ rfl rfl rfl ?_; intro v' w1 hown' hg hob hnil)
    go_ret
    obtain ⟨A', c', rfl, hf⟩ := sl_own hown'
    have hk : Kp All w w1 := ((Kp.refl All w).alloc (.cells #[] 67)).then (Kp.grown hg) (fun i hi _ => by simp [Value.ownBlock]; omega)
    rw [Nat.zero_add] at hown'
    rw [Nat.zero_add, List.nil_append] at hf
    refine ⟨⟨A', c', by simp, ?_⟩, hk⟩
    refine hf.mono fun k _ hk => ?_
    have := (hown'.lt k hk.symm).1
    exact this

structure RD where
  err : Int
  found : Bool
  val : ByteArray
  sess : Int
  pairs : List (ByteArray × ByteArray)
def RD.z : RD := ⟨0, false, ⟨#[]⟩, 0, []⟩
@[reducible] def RV (r : RD) (A : Option Addr) (c : Nat) : Value := .agg #[.int .i64 r.err, .bool r.found, .string r.val, .int .i64 r.sess, .slice A r.pairs.length c]
@[reducible] def LV (s : Int) (r : RD) (A : Option Addr) (c : Nat) : Value := .agg #[.int .i64 s, .int .i64 r.err, .bool r.found, .string r.val, .int .i64 r.sess, .slice A r.pairs.length c]
/-- the pairs lie there -/
def Ps (A : Option Addr) (c : Nat) (ps : List (ByteArray × ByteArray)) (w : World) : Prop := Sl A ps.length c 2 (pcs ps) w
def small (r : RD) : Prop := r.pairs.length * 32 ≤ 140737488355328

set_option maxRecDepth 100000 in
theorem copied_any (r : RD) (A : Option Addr) (c : Nat) (w : World) (h : Foot All (Ps A c r.pairs) w) (hs : small r) :
    Calls Try.prog 28 #[RV r A c] w fun e w' => (∃ A' c', e = .returned (RV r A' c') ∧ Foot (fun b => w.heap.size ≤ b) (Ps A' c' r.pairs) w') ∧ Kp All w w' := by
  have H := hid h
  clear h
  go_enter Try.func28, Try.ntmps28
  go_wp2_with fail
  refine (clone67_any _ _ _ _ _ (H.out.step (by exact ((Kp.refl _ _).alloc _).alloc _)) hs (pcs_one _)).mono ?_
  rintro e w1 ⟨⟨A', c', rfl, hf⟩, hk⟩
  have b1 := hk.heap (blk_alloc (blk_new w _) _) trivial
  have b2 := hk.heap (blk_new (w.alloc _) _) trivial
  rw [World.size_alloc] at b2
  have c1 := blk_cell b1
  have c2 := blk_cell b2
  have f1 := blk_free b1
  have f2 := blk_free b2
  have B1 := hid b1
  have B2 := hid b2
  have HK := hid hk
  have HF := hid hf
  clear b1 b2 hk hf
  go_wp2
  have hk : Kp All w w1 := ((Kp.refl All w).alloc _).alloc _ |>.trans HK.out
  refine bodyPost_ret (v := RV r A' c') (by simp [results, Try.results28, go_sem, c2, f2]) rfl ⟨⟨A', c', rfl, ?_⟩, ?_⟩
  · refine ((HF.out.mono (T := fun b => w.heap.size + 2 ≤ b) fun k _ h => by simpa using h).step ?_).mono fun k _ h => by omega
    repeat (first | (with_reducible exact Kp.refl _ _) | refine Kp.setOut ?_ (by omega) _)
  · repeat (first | (with_reducible exact hk) | refine Kp.setNew ?_ (by omega) _)

/-! ### The table -/
structure En where
  id : Int
  seq : Int
  r : RD
structure Raw where
  seq : Int
  r : RD
  A : Option Addr
  c : Nat
@[reducible] def Raw.v (x : Raw) : Value := LV x.seq x.r x.A x.c
def Raw.z : Raw := ⟨0, .z, none, 0⟩
/-- Table at p, its map at m, with the entries X; the pairs lie in blocks of S. -/
structure Tab (S : Nat → Prop) (w : World) (p m : Nat) (T : List (Int × Int × RD)) : Prop where
  cell : w.heap[p]? = some (.cells #[.map (some m)] 60 (0, 0))
  map : ∃ X : List (Int × Raw), IMap w m (X.map fun x => (x.1, x.2.v)) ∧ T = X.map (fun x => (x.1, x.2.seq, x.2.r)) ∧ ∀ x ∈ X, Foot S (Ps x.2.A x.2.c x.2.r.pairs) w ∧ small x.2.r
  ne : p ≠ m
theorem Tab.kept {S T : Nat → Prop} {w w' : World} {p m : Nat} {L : List (Int × Int × RD)} (h : Tab S w p m L) (k : Kp T w w') (hp : T p) (hm : T m) (hs : ∀ b, b < w.heap.size → S b → T b) : Tab S w' p m L := by
  obtain ⟨X, h1, h2, h3⟩ := h.map
  exact ⟨k.heap h.cell hp, ⟨X, h1.kept k hm, h2, fun x hx => ⟨(h3 x hx).1.step (k.mono hs), (h3 x hx).2⟩⟩, h.ne⟩


def KS (f : Ending → World → Prop) (w : World) : Ending → World → Prop := fun e w' => f e w' ∧ Kp All w w'

set_option maxRecDepth 100000 in
theorem made_yes (p m : Nat) (w : World) (h : w.heap[p]? = some (.cells #[.map (some m)] 60 (0, 0))) :
    Calls Try.prog 26 #[.pointer (some ⟨p, 0, none⟩)] w fun e w' => e = .returned (.bool true) ∧ w = w' := by
  have hn := fun (w : World) (m : Option Nat) => run_neq_map_nil w 58 3 69 m Try.underlying58
  have c1 := blk_cell h
  clear h
  go_enter Try.func26, Try.ntmps26
  go_wp2
  go_ret
  exact ⟨rfl, rfl⟩

set_option maxRecDepth 100000 in
theorem new_any (w : World) :
    Calls Try.prog 10 #[] w fun e w' => (∃ p m, e = .returned (.pointer (some ⟨p, 0, none⟩)) ∧ Tab (fun _ => False) w' p m [] ∧ w.heap.size ≤ p ∧ w.heap.size ≤ m) ∧ Kp All w w' := by
  have hmm := @run_makeMap Try.prog
  go_enter Try.func10, Try.ntmps10
  go_wp2
  go_ret
  refine ⟨⟨_, w.heap.size, rfl, ⟨?_, ⟨[], ?_, rfl, by simp⟩, by simp⟩, by simp, by simp⟩, ((Kp.refl _ _).alloc _).alloc _⟩
  · have := blk_new (w.alloc (.map #[] 0)) (.cells #[.map (some w.heap.size)] 60)
    rwa [World.size_alloc] at this
  · exact (KMap.new _ w).kept ((Kp.refl All _).alloc _) trivial

theorem zero69 (w : World) : (zeroValue 69).run Try.prog w = .ok (Raw.v .z) w := by kernel_rfl

theorem getD_raw (X : List (Int × Raw)) (id : Int) : (aget (X.map fun x => (x.1, x.2.v)) id).getD (Raw.v .z) = Raw.v ((aget X id).getD .z) := by
  rw [aget_map]
  cases aget X id <;> rfl

theorem aget_raw (X : List (Int × Raw)) (id : Int) : aget (X.map fun x => (x.1, x.2.seq, x.2.r)) id = (aget X id).map fun x => (x.seq, x.r) := aget_map (fun x : Raw => (x.seq, x.r)) X id

theorem mem_of_aget {κ β : Type} [DecidableEq κ] {L : List (κ × β)} {k : κ} {v : β} (h : aget L k = some v) : (k, v) ∈ L := by
  unfold aget at h
  obtain ⟨x, hx, rfl⟩ := Option.map_eq_some_iff.1 h
  have h1 := List.mem_of_find?_eq_some hx
  have h2 := List.find?_some hx
  obtain rfl : x.1 = k := by simpa using h2
  exact h1

/-- What find tells. -/
def Found (S : Nat → Prop) (T : List (Int × Int × RD)) (id : Int) (w : World) (e : Ending) (w' : World) : Prop :=
  ∃ x : Raw, e = .returned (.tuple #[x.v, .int .i64 (if (aget T id).isSome then 0 else 14)]) ∧ (x.seq, x.r) = (aget T id).getD (0, .z) ∧ Foot S (Ps x.A x.c x.r.pairs) w' ∧ small x.r ∧ Kp All w w'

set_option maxRecDepth 100000 in
theorem find_any (S : Nat → Prop) (p m : Nat) (T : List (Int × Int × RD)) (id : Int) (w : World) (h : Tab S w p m T) :
    Calls Try.prog 27 #[.pointer (some ⟨p, 0, none⟩), .int .i64 id] w (Found S T id w) := by
  obtain ⟨X, hX, hT, hF⟩ := h.map
  have HC := hid h.cell
  have c0 := blk_cell h.cell
  have hp : p < w.heap.size := blk_lt h.cell
  have HX := hid hX
  have HT := hid hT
  have HF := hid hF
  have HS := hid (rfl : S = S)
  clear h hX hT hF
  have hz : ∃ x : Raw, (aget X id).getD .z = x := ⟨_, rfl⟩
  obtain ⟨x, hx⟩ := hz
  have HV : Hid (_ = LV x.seq x.r x.A x.c) := hid ((getD_raw X id).trans (congrArg Raw.v hx))
  have Hx := hid hx
  obtain ⟨b, hb⟩ : ∃ b, (aget X id).isSome = b := ⟨_, rfl⟩
  have HB := hid (show (aget (X.map fun x => (x.1, x.2.v)) id).isSome = b by rw [aget_map, Option.isSome_map, hb])
  have HR : Hid ((x.seq, x.r) = (aget T id).getD (0, .z)) := hid (by
    rw [HT.out, aget_raw, ← hx]; cases aget X id <;> rfl)
  have HN : Hid ((aget T id).isSome = b) := hid (by rw [HT.out, aget_raw, Option.isSome_map, hb])
  have HP : Hid (Foot S (Ps x.A x.c x.r.pairs) w ∧ small x.r) := hid (by
    cases he : aget X id with
    | none =>
      rw [he] at hx
      subst hx
      exact ⟨fun u _ => ⟨rfl, Nat.le_refl _, fun h => absurd h (by simp [Raw.z, RD.z])⟩, by simp [small, Raw.z, RD.z]⟩
    | some y =>
      rw [he] at hx
      obtain rfl : y = x := hx
      exact HF.out _ (mem_of_aget he))
  clear hx hb
  cases b
  all_goals
    go_enter Try.func27, Try.ntmps27
    go_wp2_with (first | (go_at_call 26; refine (made_yes p m _ (blk_alloc HC.out _)).mono ?_; rintro e w' ⟨rfl, rfl⟩) | (at_lookup; go_loud (refine wpList_lookup_ok intKey Try.underlying58 (HX.out.all (Kp.al _ _)) id (zero69 _) HV.out HB.out rfl _ _ rfl rfl rfl ?_)))
    have hk : Kp All w _ := (Kp.al w (.cells #[.int .i64 x.seq, .int .i64 x.r.err, .bool x.r.found, .string x.r.val, .int .i64 x.r.sess, .slice x.A x.r.pairs.length x.c] 69)).alloc (.cells #[.int .i64 x.seq, .int .i64 x.r.err, .bool x.r.found, .string x.r.val, .int .i64 x.r.sess, .slice x.A x.r.pairs.length x.c] 69)
    refine bodyPost_ret (v := .tuple #[LV x.seq x.r x.A x.c, _]) (by simp [results, Try.results27, go_sem]; rfl) rfl ⟨x, by rw [HN.out]; rfl, HR.out, HP.out.1.step hk.all, HP.out.2, hk⟩

def openErr (T : List (Int × Int × RD)) (id : Int) : Int := if id < 1 then 2 else if (aget T id).isSome then 5 else if 16 ≤ T.length then 7 else 0
def openT (T : List (Int × Int × RD)) (id : Int) : List (Int × Int × RD) := if openErr T id = 0 then aset T id (0, .z) else T

theorem Tab.set {S : Nat → Prop} {w w' : World} {p m : Nat} {T : List (Int × Int × RD)} (h : Tab S w p m T) {X : List (Int × Raw)} (hT : T = X.map (fun x => (x.1, x.2.seq, x.2.r))) (hX : ∀ x ∈ X, Foot S (Ps x.2.A x.2.c x.2.r.pairs) w ∧ small x.2.r) {id : Int} {y : Raw}
    (hm : IMap w' m (aset (X.map fun x => (x.1, x.2.v)) id y.v)) (k : Kp (fun b => b ≠ m) w w') (hS : ¬ S m) (hy : Foot S (Ps y.A y.c y.r.pairs) w') (hs : small y.r) : Tab S w' p m (aset T id (y.seq, y.r)) := by
  refine ⟨k.heap h.cell h.ne, ⟨aset X id y, ?_, ?_, ?_⟩, h.ne⟩
  · rwa [aset_map] at hm
  · rw [hT]
    exact aset_map (fun x : Raw => (x.seq, x.r)) X id y
  · intro x hx
    rcases mem_aset hx with hx | rfl
    · exact ⟨(hX x hx).1.step (k.mono fun b _ hb e => hS (e ▸ hb)), (hX x hx).2⟩
    · exact ⟨hy, hs⟩
theorem Tab.del {S : Nat → Prop} {w w' : World} {p m : Nat} {T : List (Int × Int × RD)} (h : Tab S w p m T) {X : List (Int × Raw)} (hT : T = X.map (fun x => (x.1, x.2.seq, x.2.r))) (hX : ∀ x ∈ X, Foot S (Ps x.2.A x.2.c x.2.r.pairs) w ∧ small x.2.r) {id : Int}
    (hm : IMap w' m (adel (X.map fun x => (x.1, x.2.v)) id)) (k : Kp (fun b => b ≠ m) w w') (hS : ¬ S m) : Tab S w' p m (adel T id) := by
  refine ⟨k.heap h.cell h.ne, ⟨adel X id, ?_, ?_, ?_⟩, h.ne⟩
  · rwa [adel_map] at hm
  · rw [hT]
    exact adel_map (fun x : Raw => (x.seq, x.r)) X id
  · intro x hx
    exact ⟨(hX x (mem_adel hx)).1.step (k.mono fun b _ hb e => hS (e ▸ hb)), (hX x (mem_adel hx)).2⟩

/-- What a method that may turn the map leaves. -/
def Turned (S : Nat → Prop) (p m : Nat) (err : Int) (T : List (Int × Int × RD)) (w : World) (e : Ending) (w' : World) : Prop :=
  e = .returned (.int .i64 err) ∧ Tab S w' p m T ∧ Kp (fun b => b ≠ m) w w'

set_option maxRecDepth 100000 in
theorem open_any (S : Nat → Prop) (p m : Nat) (T : List (Int × Int × RD)) (id : Int) (w : World) (h : Tab S w p m T) (hS : ¬ S m) :
    Calls Try.prog 11 #[.pointer (some ⟨p, 0, none⟩), .int .i64 id] w (Turned S p m (openErr T id) (openT T id) w) := by
  obtain ⟨X, hX, hT, hF⟩ := h.map
  have HC := hid h.cell
  have c0 := blk_cell h.cell
  have hp : p < w.heap.size := blk_lt h.cell
  have HX := hid hX
  have HT := hid hT
  have HF := hid hF
  have H := hid h
  clear h hX hT hF
  by_cases h1 : id < 1
  · have hd : decide (id < 1) = true := decide_eq_true h1
    go_enter Try.func11, Try.ntmps11
    go_wp2_with (first | (go_at_call 26; refine (made_yes p m _ HC.out).mono ?_; rintro e w' ⟨rfl, rfl⟩))
    go_ret
    exact ⟨by simp [openErr, h1], by simpa [openT, openErr, h1] using H.out, Kp.refl _ _⟩
  · have hd : decide (id < 1) = false := decide_eq_false h1
    obtain ⟨x, hx⟩ : ∃ x, (aget X id).getD .z = x := ⟨_, rfl⟩
    have HV : Hid (_ = LV x.seq x.r x.A x.c) := hid ((getD_raw X id).trans (congrArg Raw.v hx))
    obtain ⟨b, hb⟩ : ∃ b, (aget X id).isSome = b := ⟨_, rfl⟩
    have HB := hid (show (aget (X.map fun x => (x.1, x.2.v)) id).isSome = b by rw [aget_map, Option.isSome_map, hb])
    have HN : Hid ((aget T id).isSome = b) := hid (by rw [HT.out, aget_raw, Option.isSome_map, hb])
    have HL : Hid ((X.map fun x => (x.1, x.2.v)).length = T.length) := hid (by rw [HT.out]; simp)
    clear hx hb
    obtain ⟨n, hn⟩ : ∃ n, T.length = n := ⟨_, rfl⟩
    have HL2 := hid hn
    rw [hn] at HL
    clear hn
    cases b
    · by_cases h2 : 16 ≤ n
      · have hd2 : decide (16 ≤ (n : Int)) = true := decide_eq_true (by omega)
        go_enter Try.func11, Try.ntmps11
        go_wp2_with (first | (go_at_call 26; refine (made_yes p m _ HC.out).mono ?_; rintro e w' ⟨rfl, rfl⟩) | (at_lookup; go_loud (refine wpList_lookup_ok intKey Try.underlying58 (HX.out.all (by first | exact Kp.refl _ _ | exact Kp.al _ _)) id (zero69 _) HV.out HB.out rfl _ _ rfl rfl rfl ?_)) | (at_len; go_loud (refine wpList_maplen Try.underlying58 (HX.out.all (by first | exact Kp.refl _ _ | exact Kp.al _ _)) rfl _ rfl rfl ?_; rw [HL.out])))
        go_ret
        have h0 : openErr T id = 7 := by rw [openErr, if_neg (by omega), if_neg (by rw [HN.out]; simp), if_pos (by rw [HL2.out]; exact h2)]
        rw [openT, h0]
        exact ⟨rfl, H.out.kept (Kp.al _ _) trivial trivial (fun _ _ _ => trivial), (Kp.al _ _).all⟩
      · have hd2 : decide (16 ≤ (n : Int)) = false := decide_eq_false (by omega)
        go_enter Try.func11, Try.ntmps11
        go_wp2_with (first | (go_at_call 26; refine (made_yes p m _ HC.out).mono ?_; rintro e w' ⟨rfl, rfl⟩) | (at_lookup; go_loud (refine wpList_lookup_ok intKey Try.underlying58 (HX.out.all (by first | exact Kp.refl _ _ | exact Kp.al _ _)) id (zero69 _) HV.out HB.out rfl _ _ rfl rfl rfl ?_)) | (at_len; go_loud (refine wpList_maplen Try.underlying58 (HX.out.all (by first | exact Kp.refl _ _ | exact Kp.al _ _)) rfl _ rfl rfl ?_; rw [HL.out])) | (at_mapUpdate; go_loud (refine wpList_mapset intKey Try.underlying58 (HX.out.all (Kp.al _ _)) id (Raw.v .z) rfl _ _ _ rfl rfl rfl rfl ?_; intro w1 hm1 hk1)))
        go_ret
        have h0 : openErr T id = 0 := by simp [openErr, h1, HN.out, HL2.out, h2]
        refine ⟨by rw [h0]; rfl, ?_, ((Kp.al w _).all).trans hk1⟩
        rw [openT, if_pos h0]
        exact (H.out.kept (Kp.al _ _) trivial trivial (fun _ _ _ => trivial)).set HT.out (fun x hx => ⟨(HF.out x hx).1.step (Kp.al _ _).all, (HF.out x hx).2⟩) (y := .z) hm1 hk1 hS (fun u _ => ⟨rfl, Nat.le_refl _, fun h => absurd h (by simp [Raw.z, RD.z])⟩) (by simp [small, Raw.z, RD.z])
    · go_enter Try.func11, Try.ntmps11
      go_wp2_with (first | (go_at_call 26; refine (made_yes p m _ HC.out).mono ?_; rintro e w' ⟨rfl, rfl⟩) | (at_lookup; go_loud (refine wpList_lookup_ok intKey Try.underlying58 (HX.out.all (by first | exact Kp.refl _ _ | exact Kp.al _ _)) id (zero69 _) HV.out HB.out rfl _ _ rfl rfl rfl ?_)))
      go_ret
      have h0 : openErr T id = 5 := by rw [openErr, if_neg (by omega), if_pos (by rw [HN.out])]
      rw [openT, h0]
      exact ⟨rfl, H.out.kept (Kp.al _ _) trivial trivial (fun _ _ _ => trivial), (Kp.al _ _).all⟩
end Go.Proofs.Ytkipijdbkkcioaa
