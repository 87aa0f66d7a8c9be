/- Plain: snapshots in bytes, in parts, and their ways back. No condition. The entry layer's nums, list, putInt, putConf: walked once each. No condition but that the rows are not great and the numbers are ints. The entry layer's putConf, putSnap, SnapBytes: walked once each. No condition but that the rows are not great and the numbers are ints. The entry layer's rises, GoodConf, GoodSnap, and the library's Index, Contains, IndexFunc, ContainsFunc of ints: walked once each. No condition but that the rows lie. The library's Index, Contains, IndexFunc, ContainsFunc of ints, and the entry layer's GoodConf, GoodSnap: walked once each. No condition but that the rows lie. -/
import Derived.Test.YtbkhademplgicaaGreatDoorM2
import Derived.Test.YtbkhademplgicaaGreatDoorM1
import Derived.Deep.Onto
import Derived.Deep.RegionHeld3
set_option linter.unusedVariables false
set_option linter.unusedSimpArgs false
namespace Go.Proofs.YtbkhademplgicaaGreatDoor
open Go.RowKit
set_option linter.unusedVariables false
set_option linter.unusedSimpArgs false
/-- A snapshot. -/
structure Sn where
  index : Int
  term : Int
  V : List Int
  L : List Int
  data : By
def Sn.z : Sn := ⟨0, 0, [], [], []⟩
def encList (l : List Int) : By := enc l.length ++ l.flatMap encZg
def encConf (V L : List Int) : By := encList V ++ encList L
def encSnap (s : Sn) : By := encZg s.index ++ encZg s.term ++ encConf s.V s.L ++ encText (strOfB s.data)
def riseB (l : List Int) : Bool := decide (∀ n ∈ l, 1 ≤ n ∧ n ≤ 9) && decide (l.Pairwise (· < ·))
def hasI (l : List Int) (x : Int) : Bool := l.contains x
def bothB (V L : List Int) : Bool := V.any fun n => hasI L n
def goodConf (V L : List Int) : Bool := decide (0 < V.length) && (riseB V && (riseB L && !bothB V L))
def goodSnap (s : Sn) : Bool := decide (0 < s.index) && (decide (0 < s.term) && (goodConf s.V s.L && decide (s.data.length ≤ 1048576)))
/-- Numbers that are ints. -/
def Ints64 (l : List Int) : Prop := ∀ n ∈ l, -9223372036854775808 ≤ n ∧ n ≤ 9223372036854775807
structure SnI (s : Sn) : Prop where
  i1 : -9223372036854775808 ≤ s.index ∧ s.index ≤ 9223372036854775807
  i2 : -9223372036854775808 ≤ s.term ∧ s.term ≤ 9223372036854775807
  v : Ints64 s.V
  l : Ints64 s.L
/-! ### Reading -/
def cV (s : Sx) (most : Nat) : Nat := (cntX s.1 s.2 most).1
def cX (s : Sx) (most : Nat) : Sx := (cntX s.1 s.2 most).2
def itemsP : Nat → Sx → List Int → List Int × Sx
  | 0, s, acc => (acc, s)
  | n + 1, s, acc => if s.2 = true then (acc, s) else itemsP n (nX s) (acc ++ [iV s])
def listP (s : Sx) : List Int × Sx := itemsP (cV s 1000000) (cX s 1000000) []
def snapR (s : Sx) : Sn × Sx :=
  (⟨iV s, iV (nX s), (listP (nX (nX s))).1, (listP (listP (nX (nX s))).2).1, (tV (listP (listP (nX (nX s))).2).2).data.toList⟩, tX (listP (listP (nX (nX s))).2).2)
/-- What ReadSnap makes of bytes. -/
def readSnapP (xs : By) : Option Sn := if endP (snapR (xs, false)).2 && goodSnap (snapR (xs, false)).1 then some (snapR (xs, false)).1 else none
theorem itemsP_enc (l acc : List Int) (r : By) (hl : Ints64 l) : itemsP l.length (l.flatMap encZg ++ r, false) acc = (acc ++ l, (r, false)) := by
  induction l generalizing acc with
  | nil => simp [itemsP]
  | cons n l ih =>
    obtain ⟨a1, a2⟩ := iV_enc n (hl n (List.mem_cons_self ..)).1 (hl n (List.mem_cons_self ..)).2 (l.flatMap encZg ++ r)
    rw [List.length_cons, List.flatMap_cons, List.append_assoc, itemsP, if_neg (by simp), a1, a2, ih _ fun x hx => hl x (List.mem_cons_of_mem _ hx)]
    simp
theorem listP_enc (l : List Int) (r : By) (hl : Ints64 l) (hn : l.length ≤ 1000000) : listP (encList l ++ r, false) = (l, (r, false)) := by
  have h := getP_enc l.length (by omega) (l.flatMap encZg ++ r)
  have hc : cntX (encList l ++ r) false 1000000 = (l.length, l.flatMap encZg ++ r, false) := by
    rw [encList, List.append_assoc, cntX, h]
    simp only
    rw [if_neg (by rintro (h | h | h); exact absurd h (by simp); omega; omega), drop_enc]
  unfold listP cV cX
  simp only
  rw [hc]
  simp only
  rw [itemsP_enc l [] r hl]
  simp
theorem snapR_enc {s : Sn} (hs : SnI s) (hv : s.V.length ≤ 1000000) (hl : s.L.length ≤ 1000000) (hd : s.data.length < 2 ^ 64) : snapR (encSnap s, false) = (s, ([], false)) := by
  have e : encSnap s = encZg s.index ++ (encZg s.term ++ (encList s.V ++ (encList s.L ++ (encText (strOfB s.data) ++ [])))) := by simp [encSnap, encConf]
  obtain ⟨a1, a2⟩ := iV_enc s.index hs.i1.1 hs.i1.2 (encZg s.term ++ (encList s.V ++ (encList s.L ++ (encText (strOfB s.data) ++ []))))
  obtain ⟨b1, b2⟩ := iV_enc s.term hs.i2.1 hs.i2.2 (encList s.V ++ (encList s.L ++ (encText (strOfB s.data) ++ [])))
  have c := listP_enc s.V (encList s.L ++ (encText (strOfB s.data) ++ [])) hs.v hv
  have d := listP_enc s.L (encText (strOfB s.data) ++ []) hs.l hl
  obtain ⟨f1, f2⟩ := tV_enc (strOfB s.data) (by simpa [strOfB, ByteArray.size] using hd) []
  unfold snapR
  rw [e, a1, a2, b1, b2, c]
  simp only
  rw [d]
  simp only
  rw [f1, f2]
  simp [strOfB]
theorem iV_range (s : Sx) : -9223372036854775808 ≤ iV s ∧ iV s ≤ 9223372036854775807 := by
  have := getP_lt s.1
  unfold iV zagP
  split <;> omega
theorem itemsP_int (n : Nat) : ∀ (s : Sx) (acc : List Int), Ints64 acc → Ints64 (itemsP n s acc).1 := by
  induction n with
  | zero => intro s acc h; exact h
  | succ n ih =>
    intro s acc h
    rw [itemsP]
    split
    · exact h
    · refine ih _ _ fun x hx => ?_
      rcases List.mem_append.1 hx with hx | hx
      · exact h x hx
      · rw [List.mem_singleton.1 hx]; exact iV_range s
theorem snapR_int (s : Sx) : SnI (snapR s).1 := ⟨iV_range _, iV_range _, itemsP_int _ _ _ (fun x hx => by cases hx), itemsP_int _ _ _ (fun x hx => by cases hx)⟩
theorem rise_le (l : List Int) : ∀ a : Int, (∀ n ∈ l, a ≤ n ∧ n ≤ 9) → l.Pairwise (· < ·) → l.length ≤ (10 - a).toNat := by
  induction l with
  | nil => intro a _ _; simp
  | cons x l ih =>
    intro a h hp
    obtain ⟨h1, h2⟩ := List.pairwise_cons.1 hp
    have hx := h x (List.mem_cons_self ..)
    have := ih (x + 1) (fun n hn => ⟨by have := h1 n hn; omega, (h n (List.mem_cons_of_mem _ hn)).2⟩) h2
    rw [List.length_cons]
    omega
theorem rise_len {l : List Int} (h : ∀ n ∈ l, 1 ≤ n ∧ n ≤ 9) (hp : l.Pairwise (· < ·)) : l.length ≤ 9 := by
  have := rise_le l 1 h hp
  simpa using this
theorem goodSnap_lens {s : Sn} (h : goodSnap s = true) : s.V.length ≤ 9 ∧ s.L.length ≤ 9 ∧ s.data.length ≤ 1048576 := by
  unfold goodSnap goodConf riseB at h
  simp only [Bool.and_eq_true, decide_eq_true_eq] at h
  obtain ⟨_, _, ⟨_, ⟨h1, h2⟩, ⟨h3, h4⟩, _⟩, h5⟩ := h
  exact ⟨rise_len h1 h2, rise_len h3 h4, h5⟩
theorem readSnapP_enc {s : Sn} (hs : SnI s) (hg : goodSnap s = true) : readSnapP (encSnap s) = some s := by
  obtain ⟨h1, h2, h3⟩ := goodSnap_lens hg
  have h := snapR_enc hs (by omega) (by omega) (by omega)
  unfold readSnapP
  rw [h, hg]
  rfl
end Go.Proofs.YtbkhademplgicaaGreatDoor

namespace Go.Proofs.YtbkhademplgicaaGreatDoor
open Go.RowKit
set_option linter.unusedVariables false
set_option linter.unusedSimpArgs false
def ivs (l : List Int) : List Value := l.map (Value.int .i64)
theorem own_rbf {w : World} {base e : Nat} {v : Value} {xs : By} (h : w.ownsRow base e 1 v xs.length (u8s xs)) : Foot All (Rb v xs) w := fun u hu => own_rb (own_kept h hu (fun _ _ => trivial))
theorem rb_nilf (w : World) : Foot All (Rb (.slice none 0 0) []) w := fun u _ => rb_nil u
theorem sl_int {A : Option Addr} {n c : Nat} {zs : List Int} {w : World} (h : Sl A n c 1 (ivs zs) w) {k : Nat} {z : Int} (hz : zs[k]? = some z) : ∃ b o, A = some ⟨b, o, none⟩ ∧ w.cell? ⟨b, o + k, none⟩ = some (.int .i64 z) := by
  have hk := (List.getElem?_eq_some_iff.1 hz).1
  have hl := h.1
  rw [ivs, List.length_map, Nat.mul_one] at hl
  obtain ⟨b, o, e, hr⟩ := h.2.2 (by omega)
  exact ⟨b, o, e, hr k _ (by rw [ivs, List.getElem?_map, hz]; rfl)⟩
theorem flat_take {zs : List Int} {k : Nat} {z : Int} (h : zs[k]? = some z) : (zs.take (k + 1)).flatMap encZg = (zs.take k).flatMap encZg ++ encZg z := by
  rw [List.take_add_one, h]; simp
theorem flat_len (zs : List Int) : (zs.flatMap encZg).length ≤ 9 * zs.length := by
  induction zs with
  | nil => simp
  | cons x l ih =>
    have := enc_len_le (zig x)
    rw [List.flatMap_cons, List.length_append, List.length_cons, encZg]; omega
set_option maxRecDepth 100000 in
set_option maxHeartbeats 1000000 in
theorem nums_any (v : Value) (xs : By) (A : Option Addr) (n c : Nat) (zs : List Int) (hn : zs.length = n) (h0 : 0 < n) (hz : Ints64 zs) (hlen : xs.length + 9 * n ≤ 140737488300000) (w : World) (h : Foot All (Rb v xs) w) (hs : Foot All (Sl A n c 1 (ivs zs)) w) :
    Calls Tryz.prog 150 #[v, .slice A n c] w (OutB w (xs ++ zs.flatMap encZg)) := by
  have H := hid h; have HS := hid hs; have HN := hid hn; have HZ := hid hz
  clear h hs hn hz
  go_enter Tryz.func150, Tryz.ntmps150
  go_wp2_with fail
  go_loopw [0, 9] (fun x i wr => ∃ k : Nat, k ≤ n ∧ i = .int .i64 k ∧ Hid (Foot All (Rb x (xs ++ (zs.take k).flatMap encZg)) wr) ∧ Hid (0 < k → wr.ownsRow w.heap.size 5 1 x (xs ++ (zs.take k).flatMap encZg).length (u8s (xs ++ (zs.take k).flatMap encZg))) ∧ Hid (Kp All w wr)) (fun _ i _ => n - (intOf i).toNat)
  case atStart => exact ⟨0, Nat.zero_le _, rfl, hid (by simpa using H.out), hid (fun h => absurd h (by omega)), Kp.refl _ _⟩
  case round =>
    obtain ⟨k, hk, rfl, hrb, hown, hkp⟩ := hrel
    by_cases hlt : k < n
    · have hb0 : decide ((k : Int) < (n : Int)) = true := decide_eq_true (by omega)
      obtain ⟨z, hz⟩ : ∃ z, zs[k]? = some z := ⟨_, List.getElem?_eq_getElem (by rw [HN.out]; exact hlt)⟩
      obtain ⟨b, o, rfl, hc⟩ := sl_int (HS.out.step hkp.out).now hz
      have hzi := HZ.out z (List.mem_of_getElem? hz)
      have i0 : (0 : Int) ≤ (k : Int) := by omega
      have i1 : (k : Int) < (n : Int) := by omega
      have hfl := flat_len (zs.take k)
      rw [List.length_take] at hfl
      have HZ1 := hid hz
      have HZI := hid hzi
      have hll : (xs ++ (zs.take k).flatMap encZg).length ≤ 140737488300000 := by rw [List.length_append]; omega
      have HLL := hid hll
      clear hz hzi hfl hll
      go_wp2_with fail
      refine (zig_any z HZI.out.1 HZI.out.2 _).mono ?_
      rintro e w1 ⟨rfl, rfl⟩
      go_wp2_with fail
      refine (put_any _ _ (zig z) (zig_lt z HZI.out.1 HZI.out.2) HLL.out _ hrb.out.now).mono ?_
      rintro e w2 ⟨⟨v2, rfl, ho2⟩, hk2⟩
      have e2 : xs ++ (zs.take k).flatMap encZg ++ enc (zig z) = xs ++ (zs.take (k + 1)).flatMap encZg := by rw [flat_take HZ1.out, List.append_assoc]; rfl
      rw [e2] at ho2
      have HO2 := hid (World.ownsRow.mono ho2 hkp.out.size)
      have HK2 := hid (hkp.out.trans hk2)
      clear ho2 hk2 e2
      go_wp2_with fail
      exact ⟨⟨k + 1, by omega, by go_num, hid (own_rbf HO2.out), hid (fun _ => HO2.out), HK2⟩, by simp [intOf]; omega⟩
    · have hb0 : decide ((k : Int) < (n : Int)) = false := decide_eq_false (by omega)
      obtain rfl : k = n := by omega
      have ho := hown.out h0
      rw [List.take_of_length_le (by rw [HN.out]; exact Nat.le_refl _)] at ho
      obtain ⟨AX, cx, rfl⟩ := own_shape ho
      obtain ⟨m, hm⟩ : ∃ m, (xs ++ zs.flatMap encZg).length = m := ⟨_, rfl⟩
      have HO := hid ho; have HM := hid hm
      rw [hm] at ho ⊢
      clear ho hm
      go_wp2_with fail
      go_ret
      exact ⟨⟨_, rfl, by have := HO.out; rwa [HM.out] at this ⊢⟩, hkp.out⟩
theorem sl_ints1 (w : World) (z : Int) (t : TypeId) : Foot All (Sl (some ⟨w.heap.size, 0, none⟩) 1 1 1 (ivs [z])) (w.alloc (.cells #[.int .i64 z] t)) := by
  intro u hu
  refine ⟨rfl, Nat.le_refl _, fun _ => ⟨_, 0, rfl, fun j x hj => ?_⟩⟩
  rw [Nat.zero_add, blk_cell (hu.heap (blk_new w _) trivial)]
  simpa [ivs] using hj
set_option maxRecDepth 100000 in
theorem putint_any (v : Value) (xs : By) (z : Int) (hz : -9223372036854775808 ≤ z ∧ z ≤ 9223372036854775807) (hlen : xs.length ≤ 140737488200000) (w : World) (h : Foot All (Rb v xs) w) :
    Calls Tryz.prog 194 #[v, .int .i64 z] w (OutB w (xs ++ encZg z)) := by
  have H := hid h
  clear h
  go_enter Tryz.func194, Tryz.ntmps194
  go_wp2_with fail
  refine (nums_any v xs (some ⟨w.heap.size, 0, none⟩) 1 1 [z] rfl (by omega) (fun x hx => by rw [List.mem_singleton.1 hx]; exact hz) (by omega) _ (H.out.step (Kp.al _ _)) (sl_ints1 w z _)).mono ?_
  rintro e w2 ⟨⟨v2, rfl, ho2⟩, hk2⟩
  have e2 : xs ++ [z].flatMap encZg = xs ++ encZg z := by simp
  rw [e2] at ho2
  obtain ⟨A2, c2, rfl⟩ := own_shape ho2
  obtain ⟨m, hm⟩ : ∃ m, (xs ++ encZg z).length = m := ⟨_, rfl⟩
  have HO2 := hid ho2; have HK2 := hid hk2; have HM := hid hm
  rw [hm]
  clear ho2 hk2 e2 hm
  go_wp2_with fail
  go_ret
  have ho := World.ownsRow.mono (base' := w.heap.size) HO2.out (by simp)
  exact ⟨⟨_, rfl, by rwa [HM.out] at ho ⊢⟩, (Kp.al _ _).trans HK2.out⟩
set_option maxRecDepth 100000 in
set_option maxHeartbeats 1000000 in
theorem elist_any (v : Value) (xs : By) (A : Option Addr) (n c : Nat) (zs : List Int) (hn : zs.length = n) (hz : Ints64 zs) (hlen : xs.length + 9 * n ≤ 140737488100000) (w : World) (h : Foot All (Rb v xs) w) (hs : Foot All (Sl A n c 1 (ivs zs)) w) :
    Calls Tryz.prog 193 #[v, .slice A n c, .func (.func 194) #[] #[]] w (OutB w (xs ++ encList zs)) := by
  have H := hid h; have HS := hid hs; have HN := hid hn; have HZ := hid hz
  have hnm : (n : Int) % 18446744073709551616 = (n : Int) := by omega
  clear h hs hn hz
  go_enter Tryz.func193, Tryz.ntmps193
  go_wp2_with fail
  refine (put_any v xs n (by omega) (by omega) _ H.out.now).mono ?_
  rintro e w1 ⟨⟨v1, rfl, ho1⟩, hk1⟩
  have HO1 := hid ho1; have HK1 := hid hk1
  clear ho1 hk1
  go_wp2_with fail
  go_loopw [0, 16] (fun x i wr => ∃ k : Nat, k ≤ n ∧ i = .int .i64 k ∧ Hid (wr.ownsRow w.heap.size 5 1 x (xs ++ enc n ++ (zs.take k).flatMap encZg).length (u8s (xs ++ enc n ++ (zs.take k).flatMap encZg))) ∧ Hid (Kp All w wr)) (fun _ i _ => n - (intOf i).toNat)
  case atStart => exact ⟨0, Nat.zero_le _, rfl, hid (by simpa using HO1.out), HK1⟩
  case round =>
    obtain ⟨k, hk, rfl, hown, hkp⟩ := hrel
    by_cases hlt : k < n
    · have hb0 : decide ((k : Int) < (n : Int)) = true := decide_eq_true (by omega)
      obtain ⟨z, hz⟩ : ∃ z, zs[k]? = some z := ⟨_, List.getElem?_eq_getElem (by rw [HN.out]; exact hlt)⟩
      obtain ⟨b, o, rfl, hc⟩ := sl_int (HS.out.step hkp.out).now hz
      have hzi := HZ.out z (List.mem_of_getElem? hz)
      have i0 : (0 : Int) ≤ (k : Int) := by omega
      have i1 : (k : Int) < (n : Int) := by omega
      have hfl := flat_len (zs.take k)
      have h9 := enc_len_le n
      rw [List.length_take] at hfl
      have HZ1 := hid hz
      have HZI := hid hzi
      have hll : (xs ++ enc n ++ (zs.take k).flatMap encZg).length ≤ 140737488200000 := by simp only [List.length_append]; omega
      have HLL := hid hll
      clear hz hzi hfl hll h9
      go_wp2_with fail
      refine (putint_any _ _ z HZI.out HLL.out _ (own_rbf hown.out)).mono ?_
      rintro e w2 ⟨⟨v2, rfl, ho2⟩, hk2⟩
      have e2 : xs ++ enc n ++ (zs.take k).flatMap encZg ++ encZg z = xs ++ enc n ++ (zs.take (k + 1)).flatMap encZg := by rw [flat_take HZ1.out, List.append_assoc (xs ++ enc n)]
      rw [e2] at ho2
      have HO2 := hid (World.ownsRow.mono ho2 hkp.out.size)
      have HK2 := hid (hkp.out.trans hk2)
      clear ho2 hk2 e2
      go_wp2_with fail
      exact ⟨⟨k + 1, by omega, by go_num, HO2, HK2⟩, by simp [intOf]; omega⟩
    · have hb0 : decide ((k : Int) < (n : Int)) = false := decide_eq_false (by omega)
      obtain rfl : k = n := by omega
      have ho := hown.out
      have e3 : xs ++ enc k ++ (zs.take k).flatMap encZg = xs ++ encList zs := by rw [List.take_of_length_le (by rw [HN.out]; exact Nat.le_refl _), encList, HN.out, List.append_assoc]
      rw [e3] at ho
      obtain ⟨AX, cx, rfl⟩ := own_shape ho
      obtain ⟨m, hm⟩ : ∃ m, (xs ++ encList zs).length = m := ⟨_, rfl⟩
      have HO := hid ho; have HM := hid hm
      rw [hm] at ho ⊢
      clear ho hm
      go_wp2_with fail
      go_ret
      exact ⟨⟨_, rfl, by have := HO.out; rwa [HM.out] at this ⊢⟩, hkp.out⟩
end Go.Proofs.YtbkhademplgicaaGreatDoor

namespace Go.Proofs.YtbkhademplgicaaGreatDoor
open Go.RowKit
set_option linter.unusedVariables false
set_option linter.unusedSimpArgs false
/-- The lists of members lie. -/
structure Cf (VA LA : Option Addr) (vn vc ln lc : Nat) (V L : List Int) (w : World) : Prop where
  v : Foot All (Sl VA vn vc 1 (ivs V)) w
  l : Foot All (Sl LA ln lc 1 (ivs L)) w
  vn : V.length = vn
  ln : L.length = ln
  vz : Ints64 V
  lz : Ints64 L
theorem Cf.step {VA LA : Option Addr} {vn vc ln lc : Nat} {V L : List Int} {w w' : World} (h : Cf VA LA vn vc ln lc V L w) (k : Kp All w w') : Cf VA LA vn vc ln lc V L w' := ⟨h.v.step k, h.l.step k, h.vn, h.ln, h.vz, h.lz⟩
set_option maxRecDepth 100000 in
set_option maxHeartbeats 1000000 in
theorem putconf_any (v : Value) (xs : By) (VA LA : Option Addr) (vn vc ln lc : Nat) (V L : List Int) (hlen : xs.length + 9 * (vn + ln) ≤ 140737488000000) (w : World) (h : Foot All (Rb v xs) w) (hc : Cf VA LA vn vc ln lc V L w) :
    Calls Tryz.prog 149 #[v, .agg #[.slice VA vn vc, .slice LA ln lc]] w (OutB w (xs ++ encConf V L)) := by
  have H := hid h; have HC := hid hc
  clear h hc
  go_enter Tryz.func149, Tryz.ntmps149
  go_wp2_with fail
  have b7 := blk_new w (Obj.cells #[.slice VA vn vc, .slice LA ln lc] 24)
  have k7 : Kp All w (w.alloc (Obj.cells #[.slice VA vn vc, .slice LA ln lc] 24)).drew := (Kp.al _ _).drew
  obtain ⟨W7, hW7⟩ : ∃ W7, W7 = w.alloc (Obj.cells #[.slice VA vn vc, .slice LA ln lc] 24) := ⟨_, rfl⟩
  rw [← hW7] at b7 k7 ⊢
  have c7 := blk_cell b7
  have B7 := hid b7; have K7 := hid k7
  clear b7 hW7 k7
  go_region_held3 (fun w' => ∀ i, w'.cell? ⟨w.heap.size, i, none⟩ = (#[.slice VA vn vc, .slice LA ln lc] : Array Value)[i]?) (first | exact blk_cell HB9.out | exact blk_cell HB8.out | assumption) (first | (go_at_call 193; have h8 := HO8.out; clear h8; refine (elist_any v8 (xs ++ encList V) LA ln lc L HC.out.ln HC.out.lz HL8.out _ (own_rbf HO8.out) (HC.out.l.step HK8.out)).mono ?_; rintro e w9 ⟨⟨v9, rfl, ho9⟩, hk9⟩; have HO9 := hid ho9; have HK9 := hid (HK8.out.trans hk9); have HB9 := hid (hk9.heap HB8.out trivial); clear ho9 hk9) | (go_at_call 193; refine (elist_any v xs VA vn vc V HC.out.vn HC.out.vz (by omega) _ (H.out.step K7.out) (HC.out.v.step K7.out)).mono ?_; rintro e w8 ⟨⟨v8, rfl, ho8⟩, hk8⟩; have HL8 : Hid ((xs ++ encList V).length + 9 * ln ≤ 140737488100000) := (by have h1 := flat_len V; have h2 := enc_len_le V.length; have h3 := HC.out.vn; simp only [encList, List.length_append]; exact hid (by omega)); have HO8 := hid ho8; have HK8 := hid (K7.out.trans hk8); have HB8 := hid (hk8.heap B7.out trivial); clear ho8 hk8))
  have ho : w9.ownsRow w.heap.size 5 1 v9 (xs ++ encConf V L).length (u8s (xs ++ encConf V L)) := by
    have h1 := World.ownsRow.mono (base' := w.heap.size) HO9.out HK8.out.size
    rwa [List.append_assoc] at h1
  obtain ⟨A9, c9', rfl⟩ := own_shape ho
  obtain ⟨m, hm⟩ : ∃ m, (xs ++ encConf V L).length = m := ⟨_, rfl⟩
  have HO := hid ho; have HM := hid hm
  rw [hm]
  clear ho hm HO9
  go_wp2_with fail
  go_ret
  exact ⟨⟨_, rfl, by have := HO.out; rwa [HM.out] at this ⊢⟩, HK9.out⟩
/-- A snapshot lies. -/
structure Snp (x : Sn) (VA LA DA : Option Addr) (vn vc ln lc dn dc : Nat) (w : World) : Prop where
  cf : Cf VA LA vn vc ln lc x.V x.L w
  d : Foot All (Sl DA dn dc 1 (u8s x.data)) w
  dn : x.data.length = dn
  i : -9223372036854775808 ≤ x.index ∧ x.index ≤ 9223372036854775807
  t : -9223372036854775808 ≤ x.term ∧ x.term ≤ 9223372036854775807
theorem Snp.step {x : Sn} {VA LA DA : Option Addr} {vn vc ln lc dn dc : Nat} {w w' : World} (h : Snp x VA LA DA vn vc ln lc dn dc w) (k : Kp All w w') : Snp x VA LA DA vn vc ln lc dn dc w' := ⟨h.cf.step k, h.d.step k, h.dn, h.i, h.t⟩
/-- .. in blocks of S. -/
structure SnpS (S : Nat → Prop) (x : Sn) (VA LA DA : Option Addr) (vn vc ln lc dn dc : Nat) (w : World) : Prop where
  v : Foot S (Sl VA vn vc 1 (ivs x.V)) w
  l : Foot S (Sl LA ln lc 1 (ivs x.L)) w
  vn : x.V.length = vn
  ln : x.L.length = ln
  d : Foot S (Sl DA dn dc 1 (u8s x.data)) w
  dn : x.data.length = dn
  z : SnI x
theorem SnpS.snp {S : Nat → Prop} {x : Sn} {VA LA DA : Option Addr} {vn vc ln lc dn dc : Nat} {w : World} (h : SnpS S x VA LA DA vn vc ln lc dn dc w) : Snp x VA LA DA vn vc ln lc dn dc w := ⟨⟨h.v.mono (fun _ _ _ => trivial), h.l.mono (fun _ _ _ => trivial), h.vn, h.ln, h.z.v, h.z.l⟩, h.d.mono (fun _ _ _ => trivial), h.dn, h.z.i1, h.z.i2⟩
theorem SnpS.step {S : Nat → Prop} {x : Sn} {VA LA DA : Option Addr} {vn vc ln lc dn dc : Nat} {w w' : World} (h : SnpS S x VA LA DA vn vc ln lc dn dc w) (k : Kp S w w') : SnpS S x VA LA DA vn vc ln lc dn dc w' := ⟨h.v.step k, h.l.step k, h.vn, h.ln, h.d.step k, h.dn, h.z⟩
theorem SnpS.mono {S T : Nat → Prop} {x : Sn} {VA LA DA : Option Addr} {vn vc ln lc dn dc : Nat} {w : World} (h : SnpS S x VA LA DA vn vc ln lc dn dc w) (hst : ∀ i, S i → T i) : SnpS T x VA LA DA vn vc ln lc dn dc w := ⟨h.v.mono fun i _ hi => hst i hi, h.l.mono fun i _ hi => hst i hi, h.vn, h.ln, h.d.mono fun i _ hi => hst i hi, h.dn, h.z⟩
theorem sl_ints2 (w : World) (y z : Int) (t : TypeId) : Foot All (Sl (some ⟨w.heap.size, 0, none⟩) 2 2 1 (ivs [y, z])) (w.alloc (.cells #[.int .i64 y, .int .i64 z] t)) := by
  intro u hu
  refine ⟨rfl, Nat.le_refl _, fun _ => ⟨_, 0, rfl, fun j x hj => ?_⟩⟩
  rw [Nat.zero_add, blk_cell (hu.heap (blk_new w _) trivial)]
  simpa [ivs] using hj
set_option maxRecDepth 100000 in
set_option maxHeartbeats 2000000 in
theorem putsnap_any (v : Value) (xs : By) (x : Sn) (VA LA DA : Option Addr) (vn vc ln lc dn dc : Nat) (hlen : xs.length + 9 * (vn + ln) + dn ≤ 140737487000000) (w : World) (h : Foot All (Rb v xs) w) (hs : Snp x VA LA DA vn vc ln lc dn dc w) :
    Calls Tryz.prog 117 #[v, .agg #[.int .i64 x.index, .int .i64 x.term, .slice VA vn vc, .slice LA ln lc, .slice DA dn dc]] w (OutB w (xs ++ encSnap x)) := by
  have H := hid h; have HS := hid hs
  clear h hs
  go_enter Tryz.func117, Tryz.ntmps117
  go_wp2_with fail
  have b7 := blk_new w (Obj.cells #[.int .i64 x.index, .int .i64 x.term, .slice VA vn vc, .slice LA ln lc, .slice DA dn dc] 27)
  have k7 : Kp All w (w.alloc (Obj.cells #[.int .i64 x.index, .int .i64 x.term, .slice VA vn vc, .slice LA ln lc, .slice DA dn dc] 27)).drew := (Kp.al _ _).drew
  obtain ⟨W7, hW7⟩ : ∃ W7, W7 = w.alloc (Obj.cells #[.int .i64 x.index, .int .i64 x.term, .slice VA vn vc, .slice LA ln lc, .slice DA dn dc] 27) := ⟨_, rfl⟩
  rw [← hW7] at b7 k7 ⊢
  have c7 := blk_cell b7
  have hcv : ∀ u, Kp All w u → (convert 25 9 (.slice DA dn dc)).run Tryz.prog u = .ok (.string (strOfB x.data)) u := by
    intro u hu
    refine run_conv_row ⟨DA, dc, by rw [HS.out.dn], ?_⟩
    rw [HS.out.dn]
    exact (HS.out.d.step hu).now
  have HCV := hid hcv
  have c8 := hcv _ k7
  clear hcv
  have hds : (strOfB x.data).size = dn := by rw [← HS.out.dn]; simp [strOfB, ByteArray.size]
  have HDS := hid hds
  clear hds
  have B7 := hid b7; have K7 := hid k7
  clear b7 hW7 k7
  go_region_held3 (fun w' => (∀ i, w'.cell? ⟨w.heap.size, i, none⟩ = (#[.int .i64 x.index, .int .i64 x.term, .slice VA vn vc, .slice LA ln lc, .slice DA dn dc] : Array Value)[i]?) ∧ (convert 25 9 (.slice DA dn dc)).run Tryz.prog w' = .ok (.string (strOfB x.data)) w') (first | exact ⟨blk_cell HB10.out, HCV.out _ HK10.out⟩ | exact ⟨blk_cell HB9.out, HCV.out _ HK9.out⟩ | exact ⟨blk_cell HB8.out, HCV.out _ HK8.out⟩ | exact ⟨blk_cell (blk_alloc B7.out _), HCV.out _ (K7.out.alloc _)⟩ | exact ⟨c7, c8⟩ | assumption) (first | (go_at_call 150; refine (nums_any v xs _ 2 2 [x.index, x.term] rfl (by omega) (fun y hy => by rcases List.mem_cons.1 hy with rfl | hy; exact HS.out.i; rw [List.mem_singleton.1 hy]; exact HS.out.t) (by omega) _ (H.out.step (K7.out.alloc _)) (sl_ints2 _ _ _ _)).mono ?_; rintro e w8 ⟨⟨v8, rfl, ho8⟩, hk8⟩; have HO8 := hid ho8; have HL8 : Hid ((xs ++ [x.index, x.term].flatMap encZg).length + 9 * (vn + ln) ≤ 140737488000000) := (by have h1 := flat_len [x.index, x.term]; simp only [List.length_append, List.length_cons, List.length_nil] at h1 ⊢; exact hid (by omega)); have HL9 : Hid ((xs ++ [x.index, x.term].flatMap encZg ++ encConf x.V x.L).length + (strOfB x.data).size ≤ 140737488200000) := (by have h1 := flat_len [x.index, x.term]; have h2 := flat_len x.V; have h3 := flat_len x.L; have h4 := enc_len_le x.V.length; have h5 := enc_len_le x.L.length; have h6 := HS.out.cf.vn; have h7 := HS.out.cf.ln; have h8 := HDS.out; simp only [encConf, encList, List.length_append, List.length_cons, List.length_nil] at h1 ⊢; exact hid (by omega)); have HK8 := hid ((K7.out.alloc _).trans hk8); have HB8 := hid (hk8.heap (blk_alloc B7.out _) trivial); clear ho8 hk8) | (go_at_call 149; have h8 := HO8.out; clear h8; refine (putconf_any v8 _ VA LA vn vc ln lc x.V x.L HL8.out _ (own_rbf HO8.out) (HS.out.cf.step HK8.out)).mono ?_; rintro e w9 ⟨⟨v9, rfl, ho9⟩, hk9⟩; have HO9 := hid ho9; have HK9 := hid (HK8.out.trans hk9); have HB9 := hid (hk9.heap HB8.out trivial); clear ho9 hk9) | (go_at_call 148; have h9 := HO9.out; clear h9; refine (puttext_any v9 _ (strOfB x.data) HL9.out _ (own_rbf HO9.out).now).mono ?_; rintro e w10 ⟨⟨v10, rfl, ho10⟩, hk10⟩; have HO10 := hid ho10; have HK10 := hid (HK9.out.trans hk10); have HB10 := hid (hk10.heap HB9.out trivial); clear ho10 hk10))
  have e10 : xs ++ [x.index, x.term].flatMap encZg ++ encConf x.V x.L ++ encText (strOfB x.data) = xs ++ encSnap x := by simp [encSnap, List.append_assoc]
  have ho : w10.ownsRow w.heap.size 5 1 v10 (xs ++ encSnap x).length (u8s (xs ++ encSnap x)) := by
    have h1 := World.ownsRow.mono (base' := w.heap.size) HO10.out HK9.out.size
    rwa [e10] at h1
  obtain ⟨A9, c9', rfl⟩ := own_shape ho
  obtain ⟨m, hm⟩ : ∃ m, (xs ++ encSnap x).length = m := ⟨_, rfl⟩
  have HO := hid ho; have HM := hid hm
  rw [hm]
  clear ho hm HO10 e10
  go_wp2_with fail
  go_ret
  exact ⟨⟨_, rfl, by have := HO.out; rwa [HM.out] at this ⊢⟩, HK10.out⟩
set_option maxRecDepth 100000 in
theorem snapbytes_any (x : Sn) (VA LA DA : Option Addr) (vn vc ln lc dn dc : Nat) (hlen : 9 * (vn + ln) + dn ≤ 140737487000000) (w : World) (hs : Snp x VA LA DA vn vc ln lc dn dc w) :
    Calls Tryz.prog 74 #[.agg #[.int .i64 x.index, .int .i64 x.term, .slice VA vn vc, .slice LA ln lc, .slice DA dn dc]] w (OutB w (encSnap x)) := by
  have HS := hid hs
  have c7 := blk_cell (blk_new w (Obj.cells #[.int .i64 x.index, .int .i64 x.term, .slice VA vn vc, .slice LA ln lc, .slice DA dn dc] 27))
  clear hs
  go_enter Tryz.func74, Tryz.ntmps74
  go_wp2_with fail
  refine (putsnap_any (.slice none 0 0) [] x VA LA DA vn vc ln lc dn dc (by simp; omega) _ (rb_nilf _) (HS.out.step (Kp.al _ _))).mono ?_
  rintro e w2 ⟨⟨v2, rfl, ho2⟩, hk2⟩
  rw [List.nil_append] at ho2
  obtain ⟨A2, c2, rfl⟩ := own_shape ho2
  obtain ⟨m, hm⟩ : ∃ m, (encSnap x).length = m := ⟨_, rfl⟩
  have HO2 := hid (World.ownsRow.mono (base' := w.heap.size) ho2 (by simp)); have HK2 := hid ((Kp.al w _).trans hk2); have HM := hid hm
  rw [hm]
  clear ho2 hk2 hm
  go_wp2_with fail
  go_ret
  exact ⟨⟨_, rfl, by have := HO2.out; rwa [HM.out] at this ⊢⟩, HK2.out⟩
end Go.Proofs.YtbkhademplgicaaGreatDoor

namespace Go.Proofs.YtbkhademplgicaaGreatDoor
open Go.RowKit
set_option linter.unusedVariables false
set_option linter.unusedSimpArgs false
theorem rise_sub {l m : List Int} (h : riseB l = true) (hm : m.Sublist l) : riseB m = true := by
  unfold riseB at h ⊢
  simp only [Bool.and_eq_true, decide_eq_true_eq] at h ⊢
  exact ⟨fun n hn => h.1 n (hm.subset hn), h.2.sublist hm⟩
theorem rise_ok {zs : List Int} {k : Nat} {z : Int} (hz : zs[k]? = some z) (h : riseB (zs.take k) = true) (h1 : 1 ≤ z) (h9 : z ≤ 9) (hp : ∀ j y, k = j + 1 → zs[j]? = some y → y < z) : riseB (zs.take (k + 1)) = true := by
  rw [List.take_add_one, hz]
  unfold riseB at h ⊢
  simp only [Bool.and_eq_true, decide_eq_true_eq] at h ⊢
  refine ⟨fun n hn => ?_, List.pairwise_append.2 ⟨h.2, by simp, fun a ha b hb => ?_⟩⟩
  · rcases List.mem_append.1 hn with hn | hn
    · exact h.1 n hn
    · simp at hn; subst hn; exact ⟨h1, h9⟩
  · simp at hb
    subst hb
    obtain ⟨i, hi⟩ := List.mem_iff_getElem?.1 ha
    obtain ⟨hil, hie⟩ := List.getElem?_eq_some_iff.1 hi
    rw [List.length_take] at hil
    obtain ⟨j, rfl⟩ : ∃ j, k = j + 1 := ⟨k - 1, by omega⟩
    have hkl := (List.getElem?_eq_some_iff.1 hz).1
    have hy := hp j zs[j] rfl (List.getElem?_eq_getElem (by omega))
    by_cases e : i = j
    · subst e
      rw [List.getElem_take] at hie
      rw [← hie]; exact hy
    · have := List.pairwise_iff_getElem.1 h.2 i j (by rw [List.length_take]; omega) (by rw [List.length_take]; omega) (by omega)
      rw [hie, List.getElem_take] at this
      omega
theorem rise_no1 {zs : List Int} {k : Nat} {z : Int} (hz : zs[k]? = some z) (h1 : z < 1 ∨ 9 < z) : riseB zs = false := by
  cases h : riseB zs with
  | false => rfl
  | true =>
    unfold riseB at h
    simp only [Bool.and_eq_true, decide_eq_true_eq] at h
    have := h.1 z (List.mem_of_getElem? hz)
    omega
theorem rise_no2 {zs : List Int} {j : Nat} {y z : Int} (hz : zs[j + 1]? = some z) (hy : zs[j]? = some y) (h1 : z ≤ y) : riseB zs = false := by
  cases h : riseB zs with
  | false => rfl
  | true =>
    unfold riseB at h
    simp only [Bool.and_eq_true, decide_eq_true_eq] at h
    obtain ⟨a, b⟩ := List.getElem?_eq_some_iff.1 hz
    obtain ⟨c, d⟩ := List.getElem?_eq_some_iff.1 hy
    have := List.pairwise_iff_getElem.1 h.2 j (j + 1) c a (by omega)
    omega
set_option maxRecDepth 100000 in
set_option maxHeartbeats 1000000 in
theorem rises_any (A : Option Addr) (n c : Nat) (zs : List Int) (hn : zs.length = n) (hl : n ≤ 9000000000000000000) (w : World) (h : Sl A n c 1 (ivs zs) w) :
    Calls Tryz.prog 115 #[.slice A n c] w fun e w' => e = .returned (.bool (riseB zs)) ∧ w = w' := by
  have H := hid h; have HN := hid hn
  clear h hn
  go_enter Tryz.func115, Tryz.ntmps115
  go_wp2_with fail
  go_loop [7] (fun i => ∃ k : Nat, k ≤ n ∧ i = .int .i64 k ∧ Hid (riseB (zs.take k) = true)) (fun i => n - (intOf i).toNat)
  case atStart => exact ⟨0, Nat.zero_le _, rfl, hid (by simp [riseB])⟩
  case round =>
    obtain ⟨k, hk, rfl, hr⟩ := hrel
    by_cases hlt : k < n
    · have hb0 : decide ((k : Int) < (n : Int)) = true := decide_eq_true (by omega)
      obtain ⟨z, hz⟩ : ∃ z, zs[k]? = some z := ⟨_, List.getElem?_eq_getElem (by rw [HN.out]; exact hlt)⟩
      obtain ⟨b, o, rfl, hc⟩ := sl_int H.out hz
      have i0 : (0 : Int) ≤ (k : Int) := by omega
      have i1 : (k : Int) < (n : Int) := by omega
      have HZ := hid hz
      by_cases h1 : z < 1
      · have d1 : decide (z < 1) = true := decide_eq_true h1
        have HR := hid (rise_no1 hz (.inl h1))
        clear hz h1
        go_wp2_with fail
        go_ret
        exact ⟨by rw [HR.out]; rfl, rfl⟩
      have d1 : decide (z < 1) = false := decide_eq_false h1
      by_cases h9 : 9 < z
      · have d9 : decide (9 < z) = true := decide_eq_true h9
        have HR := hid (rise_no1 hz (.inr h9))
        clear hz h1 h9
        go_wp2_with fail
        go_ret
        exact ⟨by rw [HR.out]; rfl, rfl⟩
      have d9 : decide (9 < z) = false := decide_eq_false h9
      have H1 := hid (show 1 ≤ z by omega); have H9 := hid (show z ≤ 9 by omega)
      clear h1 h9 hz
      match k, hk, hlt, HZ, hc, hr with
      | 0, _, _, HZ, hc, hr =>
        have e0 : decide ((0 : Int) < ((0 : Nat) : Int)) = false := by decide
        rw [Nat.add_zero] at hc
        go_wp2_with fail
        exact ⟨⟨1, by omega, by go_num, hid (rise_ok HZ.out hr.out H1.out H9.out (fun j y e => by omega))⟩, by simp [intOf]; omega⟩
      | j + 1, hk, hlt, HZ, hc, hr =>
        obtain ⟨y, hy⟩ : ∃ y, zs[j]? = some y := ⟨_, List.getElem?_eq_getElem (by rw [HN.out]; omega)⟩
        obtain ⟨b', o', eA, hcy⟩ := sl_int H.out hy
        injection eA with eA; injection eA with e1 e2; subst e1 e2
        have e0 : decide ((0 : Int) < ((j + 1 : Nat) : Int)) = true := decide_eq_true (by omega)
        have HY := hid hy
        clear hy
        by_cases hyz : z ≤ y
        · have d2 : decide (z ≤ y) = true := decide_eq_true hyz
          have HR := hid (rise_no2 HZ.out HY.out hyz)
          clear hyz
          go_wp2_with fail
          go_ret
          exact ⟨by rw [HR.out]; rfl, rfl⟩
        · have d2 : decide (z ≤ y) = false := decide_eq_false hyz
          have HYZ := hid (show y < z by omega)
          clear hyz
          go_wp2_with fail
          exact ⟨⟨j + 2, by omega, by go_num, hid (rise_ok HZ.out hr.out H1.out H9.out (fun j' y' e hy' => by
            obtain rfl : j = j' := by omega
            rw [HY.out] at hy'; injection hy' with hy'; rw [← hy']; exact HYZ.out))⟩, by simp [intOf]; omega⟩
    · have hb0 : decide ((k : Int) < (n : Int)) = false := decide_eq_false (by omega)
      obtain rfl : k = n := by omega
      have hh := hr.out
      rw [List.take_of_length_le (by rw [HN.out]; exact Nat.le_refl _)] at hh
      go_wp2_with fail
      go_ret
      exact ⟨by first | rfl | rw [hh], rfl⟩
end Go.Proofs.YtbkhademplgicaaGreatDoor

namespace Go.Proofs.YtbkhademplgicaaGreatDoor
open Go.RowKit
set_option linter.unusedVariables false
set_option linter.unusedSimpArgs false
/-- An index of the first that q holds of, or below 0. -/
def IdxP (q : Bool) (w : World) (e : Ending) (w' : World) : Prop := ∃ r : Int, e = .returned (.int .i64 r) ∧ decide (0 ≤ r) = q ∧ w = w'
theorem any_take {zs : List Int} {q : Int → Bool} {k : Nat} {z : Int} (hz : zs[k]? = some z) (h : (zs.take k).any q = false) (hq : q z = false) : (zs.take (k + 1)).any q = false := by
  rw [List.take_add_one, hz, List.any_append, h]
  simp [hq]
set_option maxRecDepth 100000 in
theorem iindex_any (A : Option Addr) (n c : Nat) (zs : List Int) (x : Int) (hn : zs.length = n) (hl : n ≤ 9000000000000000000) (w : World) (h : Sl A n c 1 (ivs zs) w) :
    Calls Tryz.prog 146 #[.slice A n c, .int .i64 x] w (IdxP (hasI zs x) w) := by
  have H := hid h; have HN := hid hn
  have HQ := hid (show hasI zs x = zs.any (fun z => x == z) from by rw [hasI, List.contains_eq_any_beq])
  clear h hn
  rw [HQ.out]
  clear HQ
  go_enter Tryz.func146, Tryz.ntmps146
  go_wp2_with fail
  go_loop [8] (fun i => ∃ k : Nat, k ≤ n ∧ i = .int .i64 k ∧ Hid ((zs.take k).any (fun z => x == z) = false)) (fun i => n - (intOf i).toNat)
  case atStart => exact ⟨0, Nat.zero_le _, rfl, hid (by simp)⟩
  case round =>
    obtain ⟨k, hk, rfl, hr⟩ := hrel
    by_cases hlt : k < n
    · have hb0 : decide ((k : Int) < (n : Int)) = true := decide_eq_true (by omega)
      obtain ⟨z, hz⟩ : ∃ z, zs[k]? = some z := ⟨_, List.getElem?_eq_getElem (by rw [HN.out]; exact hlt)⟩
      obtain ⟨b, o, rfl, hc⟩ := sl_int H.out hz
      have i0 : (0 : Int) ≤ (k : Int) := by omega
      have i1 : (k : Int) < (n : Int) := by omega
      have HZ := hid hz
      clear hz
      by_cases he : x = z
      · have d1 : (x == z) = true := by simp [he]
        have HE := hid he
        clear he
        go_wp2_with fail
        go_ret
        refine ⟨(k : Int), rfl, ?_, rfl⟩
        rw [decide_eq_true (by omega), eq_comm, List.any_eq_true]
        exact ⟨z, List.mem_of_getElem? HZ.out, by simp [HE.out]⟩
      · have d1 : (x == z) = false := by simp [he]
        have HE := hid he
        clear he
        go_wp2_with fail
        exact ⟨⟨k + 1, by omega, by go_num, hid (any_take HZ.out hr.out (by simp [HE.out]))⟩, by simp [intOf]; omega⟩
    · have hb0 : decide ((k : Int) < (n : Int)) = false := decide_eq_false (by omega)
      obtain rfl : k = n := by omega
      go_wp2_with fail
      go_ret
      refine ⟨-1, rfl, ?_, rfl⟩
      have hh := hr.out
      rw [List.take_of_length_le (by rw [HN.out]; exact Nat.le_refl _)] at hh
      rw [hh]; rfl
set_option maxRecDepth 100000 in
theorem contains_any (A : Option Addr) (n c : Nat) (zs : List Int) (x : Int) (hn : zs.length = n) (hl : n ≤ 9000000000000000000) (w : World) (h : Sl A n c 1 (ivs zs) w) :
    Calls Tryz.prog 114 #[.slice A n c, .int .i64 x] w fun e w' => e = .returned (.bool (hasI zs x)) ∧ w = w' := by
  have H := hid h; have HN := hid hn
  clear h hn
  go_enter Tryz.func114, Tryz.ntmps114
  go_wp2_with fail
  refine (iindex_any A n c zs x HN.out hl w H.out).mono ?_
  rintro e w1 ⟨r, rfl, hr, rfl⟩
  go_wp2_with fail
  go_ret
  exact ⟨rfl, rfl⟩
set_option maxRecDepth 100000 in
theorem both_any (bx : Nat) (VA LA : Option Addr) (vn vc ln lc : Nat) (L : List Int) (x : Int) (hl9 : ln ≤ 9000000000000000000) (hn : L.length = ln) (w : World) (hb : w.heap[bx]? = some (.cells #[.slice VA vn vc, .slice LA ln lc] 24 (0, 0))) (h : Sl LA ln lc 1 (ivs L) w) :
    Calls Tryz.prog 113 #[.int .i64 x, .pointer (some ⟨bx, 0, none⟩)] w fun e w' => e = .returned (.bool (hasI L x)) ∧ w = w' := by
  have H := hid h; have HN := hid hn
  have c1 := blk_cell hb
  clear h hn hb
  go_enter Tryz.func113, Tryz.ntmps113
  go_wp2_with fail
  refine (contains_any LA ln lc L x HN.out hl9 w H.out).mono ?_
  rintro e w1 ⟨rfl, rfl⟩
  go_wp2_with fail
  go_ret
  exact ⟨rfl, rfl⟩
set_option maxRecDepth 100000 in
theorem iindexf_any (bx : Nat) (VA LA : Option Addr) (vn vc ln lc : Nat) (V L : List Int) (hl8 : vn ≤ 9000000000000000000) (hl9 : ln ≤ 9000000000000000000) (hv : V.length = vn) (hn : L.length = ln) (w : World) (hb : w.heap[bx]? = some (.cells #[.slice VA vn vc, .slice LA ln lc] 24 (0, 0))) (h : Sl LA ln lc 1 (ivs L) w) (h' : Sl VA vn vc 1 (ivs V) w) :
    Calls Tryz.prog 147 #[.slice VA vn vc, .func (.func 113) #[] #[.pointer (some ⟨bx, 0, none⟩)]] w (IdxP (bothB V L) w) := by
  have H := hid h; have HN := hid hn; have HV := hid h'; have HVN := hid hv; have HB := hid hb
  clear h hn hb h' hv
  go_enter Tryz.func147, Tryz.ntmps147
  go_wp2_with fail
  go_loop [8] (fun i => ∃ k : Nat, k ≤ vn ∧ i = .int .i64 k ∧ Hid ((V.take k).any (fun n => hasI L n) = false)) (fun i => vn - (intOf i).toNat)
  case atStart => exact ⟨0, Nat.zero_le _, rfl, hid (by simp)⟩
  case round =>
    obtain ⟨k, hk, rfl, hr⟩ := hrel
    by_cases hlt : k < vn
    · have hb0 : decide ((k : Int) < (vn : Int)) = true := decide_eq_true (by omega)
      obtain ⟨z, hz⟩ : ∃ z, V[k]? = some z := ⟨_, List.getElem?_eq_getElem (by rw [HVN.out]; exact hlt)⟩
      obtain ⟨b, o, rfl, hc⟩ := sl_int HV.out hz
      have i0 : (0 : Int) ≤ (k : Int) := by omega
      have i1 : (k : Int) < (vn : Int) := by omega
      have HZ := hid hz
      clear hz
      go_wp2_with fail
      refine (both_any bx (some ⟨b, o, none⟩) LA vn vc ln lc L z hl9 HN.out w HB.out H.out).mono ?_
      rintro e w1 ⟨rfl, rfl⟩
      cases hq : hasI L z with
      | true =>
        have HE := hid hq
        clear hq
        go_wp2_with fail
        go_ret
        refine ⟨(k : Int), rfl, ?_, rfl⟩
        rw [decide_eq_true (by omega), eq_comm, bothB, List.any_eq_true]
        exact ⟨z, List.mem_of_getElem? HZ.out, HE.out⟩
      | false =>
        have HE := hid hq
        clear hq
        go_wp2_with fail
        exact ⟨⟨k + 1, by omega, by go_num, hid (any_take HZ.out hr.out HE.out)⟩, by simp [intOf]; omega⟩
    · have hb0 : decide ((k : Int) < (vn : Int)) = false := decide_eq_false (by omega)
      obtain rfl : k = vn := by omega
      go_wp2_with fail
      go_ret
      refine ⟨-1, rfl, ?_, rfl⟩
      have hh := hr.out
      rw [List.take_of_length_le (by rw [HVN.out]; exact Nat.le_refl _)] at hh
      rw [bothB, hh]; rfl
set_option maxRecDepth 100000 in
theorem containsf_any (bx : Nat) (VA LA : Option Addr) (vn vc ln lc : Nat) (V L : List Int) (hl8 : vn ≤ 9000000000000000000) (hl9 : ln ≤ 9000000000000000000) (hv : V.length = vn) (hn : L.length = ln) (w : World) (hb : w.heap[bx]? = some (.cells #[.slice VA vn vc, .slice LA ln lc] 24 (0, 0))) (h : Sl LA ln lc 1 (ivs L) w) (h' : Sl VA vn vc 1 (ivs V) w) :
    Calls Tryz.prog 116 #[.slice VA vn vc, .func (.func 113) #[] #[.pointer (some ⟨bx, 0, none⟩)]] w fun e w' => e = .returned (.bool (bothB V L)) ∧ w = w' := by
  have HC := hid (iindexf_any bx VA LA vn vc ln lc V L hl8 hl9 hv hn w hb h h')
  clear hv hn hb h h'
  go_enter Tryz.func116, Tryz.ntmps116
  go_wp2_with fail
  refine HC.out.mono ?_
  rintro e w1 ⟨r, rfl, hr, rfl⟩
  go_wp2_with fail
  go_ret
  exact ⟨rfl, rfl⟩
set_option maxRecDepth 100000 in
set_option maxHeartbeats 1000000 in
theorem goodconf_any (VA LA : Option Addr) (vn vc ln lc : Nat) (V L : List Int) (hl8 : vn ≤ 9000000000000000000) (hl9 : ln ≤ 9000000000000000000) (w : World) (h : Cf VA LA vn vc ln lc V L w) :
    Calls Tryz.prog 71 #[.agg #[.slice VA vn vc, .slice LA ln lc]] w fun e w' => e = .returned (.bool (goodConf V L)) ∧ Kp All w w' := by
  have H := hid (h.step (Kp.al w (.cells #[.slice VA vn vc, .slice LA ln lc] 24)))
  have B7 := hid (blk_new w (.cells #[.slice VA vn vc, .slice LA ln lc] 24))
  have c7 := blk_cell B7.out
  have hmf : ∀ (fn : Fn) (first cap : Array Value) (w : World), (Instr.makeFunc fn first cap).run Tryz.prog w = .ok (.func fn first cap) w := fun _ _ _ _ => rfl
  have HVN := hid h.vn
  clear h
  by_cases h0 : 0 < vn
  case neg =>
    have d0 : decide (0 < vn) = false := decide_eq_false h0
    have HG := hid (show goodConf V L = false by rw [goodConf, decide_eq_false (by rw [HVN.out]; exact h0)]; rfl)
    go_enter Tryz.func71, Tryz.ntmps71
    go_wp2_with fail
    go_ret
    rw [HG.out]
    exact ⟨rfl, Kp.al _ _⟩
  have d0 : decide (0 < vn) = true := decide_eq_true h0
  have HG := hid (show goodConf V L = (riseB V && (riseB L && !bothB V L)) by rw [goodConf, decide_eq_true (by rw [HVN.out]; exact h0)]; rfl)
  go_enter Tryz.func71, Tryz.ntmps71
  go_wp2_with fail
  refine (rises_any VA vn vc V HVN.out hl8 _ H.out.v.now).mono ?_
  rintro e w1 ⟨rfl, rfl⟩
  cases hrv : riseB V with
  | false =>
    have HRV := hid hrv
    clear hrv
    go_wp2_with fail
    go_ret
    rw [HG.out, HRV.out]
    exact ⟨rfl, Kp.al _ _⟩
  | true =>
  have HRV := hid hrv
  clear hrv
  go_wp2_with fail
  refine (rises_any LA ln lc L H.out.ln hl9 _ H.out.l.now).mono ?_
  rintro e w1 ⟨rfl, rfl⟩
  cases hrl : riseB L with
  | false =>
    have HRL := hid hrl
    clear hrl
    go_wp2_with fail
    go_ret
    rw [HG.out, HRV.out, HRL.out]
    exact ⟨rfl, Kp.al _ _⟩
  | true =>
  have HRL := hid hrl
  clear hrl
  go_wp2_with fail
  refine (containsf_any w.heap.size VA LA vn vc ln lc V L hl8 hl9 HVN.out H.out.ln _ B7.out H.out.l.now H.out.v.now).mono ?_
  rintro e w1 ⟨rfl, rfl⟩
  go_wp2_with fail
  go_ret
  rw [HG.out, HRV.out, HRL.out]
  exact ⟨rfl, Kp.al _ _⟩
set_option maxRecDepth 100000 in
set_option maxHeartbeats 1000000 in
theorem goodsnap_any (x : Sn) (VA LA DA : Option Addr) (vn vc ln lc dn dc : Nat) (hl8 : vn ≤ 9000000000000000000) (hl9 : ln ≤ 9000000000000000000) (w : World) (hs : Snp x VA LA DA vn vc ln lc dn dc w) :
    Calls Tryz.prog 31 #[.agg #[.int .i64 x.index, .int .i64 x.term, .slice VA vn vc, .slice LA ln lc, .slice DA dn dc]] w fun e w' => e = .returned (.bool (goodSnap x)) ∧ Kp All w w' := by
  have HS := hid (hs.step (Kp.al w (Obj.cells #[.int .i64 x.index, .int .i64 x.term, .slice VA vn vc, .slice LA ln lc, .slice DA dn dc] 27)))
  have B7 := hid (blk_new w (Obj.cells #[.int .i64 x.index, .int .i64 x.term, .slice VA vn vc, .slice LA ln lc, .slice DA dn dc] 27))
  have c7 := blk_cell B7.out
  have HDN := hid hs.dn
  clear hs
  by_cases h1 : 0 < x.index
  case neg =>
    have d1 : decide (0 < x.index) = false := decide_eq_false h1
    have HG := hid (show goodSnap x = false by rw [goodSnap, d1]; rfl)
    go_enter Tryz.func31, Tryz.ntmps31
    go_wp2_with fail
    go_ret
    rw [HG.out]
    exact ⟨rfl, Kp.al _ _⟩
  have d1 : decide (0 < x.index) = true := decide_eq_true h1
  by_cases h2 : 0 < x.term
  case neg =>
    have d2 : decide (0 < x.term) = false := decide_eq_false h2
    have HG := hid (show goodSnap x = false by rw [goodSnap, d1, d2]; rfl)
    go_enter Tryz.func31, Tryz.ntmps31
    go_wp2_with fail
    go_ret
    rw [HG.out]
    exact ⟨rfl, Kp.al _ _⟩
  have d2 : decide (0 < x.term) = true := decide_eq_true h2
  have HG := hid (show goodSnap x = (goodConf x.V x.L && decide (dn ≤ 1048576)) by rw [goodSnap, d1, d2, HDN.out]; rfl)
  go_enter Tryz.func31, Tryz.ntmps31
  go_wp2_with fail
  refine (goodconf_any VA LA vn vc ln lc x.V x.L hl8 hl9 _ HS.out.cf).mono ?_
  rintro e w1 ⟨rfl, hk1⟩
  have c8 := blk_cell (hk1.heap B7.out trivial)
  have HK1 := hid ((Kp.al w _).trans hk1)
  clear hk1
  cases hgc : goodConf x.V x.L with
  | false =>
    have HC := hid hgc
    clear hgc
    go_wp2_with fail
    go_ret
    rw [HG.out, HC.out]
    exact ⟨rfl, HK1.out⟩
  | true =>
    have HC := hid hgc
    clear hgc
    by_cases h3 : dn ≤ 1048576
    · have d3 : decide ((dn : Int) ≤ 1048576) = true := decide_eq_true (by omega)
      go_wp2_with fail
      go_ret
      rw [HG.out, HC.out, decide_eq_true h3]
      exact ⟨rfl, HK1.out⟩
    · have d3 : decide ((dn : Int) ≤ 1048576) = false := decide_eq_false (by omega)
      go_wp2_with fail
      go_ret
      rw [HG.out, HC.out, decide_eq_false h3]
      exact ⟨rfl, HK1.out⟩
end Go.Proofs.YtbkhademplgicaaGreatDoor
