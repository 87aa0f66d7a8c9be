/- The map's made, Get and Len walked. No condition but that the map lies. -/
import Derived.Test.YtodledidabdkaaaDoorVO
namespace Go.Proofs.YtodledidabdkaaaDoor
open Go.RowKit Go.Shelf V
set_option linter.unusedVariables false
set_option linter.unusedSimpArgs false
theorem mmade_yes {k0 k1 bm bw cw bs cs g : Nat} {c : List Nat} {l : List Slot} {n t : Int} (hg : 1 ≤ g) (w : World) (h : Mr k0 k1 bm bw cw bs cs g c l n t w) : Calls Tryd.prog 33 #[.pointer (some ⟨bm, 0, none⟩)] w fun e w' => e = .returned (.bool true) ∧ w' = w := by
  have c0 := blk_cell h.str
  have d1 : decide ((0 : Int) < (g : Int)) = true := decide_eq_true (by omega)
  clear h
  go_enter Tryd.func33, Tryd.ntmps33
  go_wp2
  go_ret
  exact ⟨congrArg (fun b => Ending.returned (.bool b)) (decide_eq_true (by omega)), rfl⟩
theorem mmade_nil (w : World) : Calls Tryd.prog 33 #[.pointer none] w fun e w' => e = .returned (.bool false) ∧ w' = w := by
  go_enter Tryd.func33, Tryd.ntmps33
  go_wp2
  go_ret
  exact ⟨rfl, rfl⟩
theorem mlen_any {k0 k1 bm bw cw bs cs g : Nat} {c : List Nat} {l : List Slot} {n t : Int} (hg : 1 ≤ g) (w : World) (h : Mr k0 k1 bm bw cw bs cs g c l n t w) : Calls Tryd.prog 18 #[.pointer (some ⟨bm, 0, none⟩)] w fun e w' => e = .returned (.int .i64 n) ∧ w' = w := by
  have c0 := blk_cell h.str
  have HM := hid (fun w' (hw : w' = w) => mmade_yes hg w h)
  clear h
  go_enter Tryd.func18, Tryd.ntmps18
  go_wp2_with fail
  refine (HM.out _ rfl).mono ?_
  rintro e w' ⟨rfl, hw⟩
  subst hw
  go_wp2_with fail
  go_ret
  exact ⟨rfl, rfl⟩
def getV (o : Option Tx) : Value := .tuple #[.string (o.getD ByteArray.empty), .bool o.isSome]
set_option maxRecDepth 100000 in
theorem mget_any (k0 k1 bm bw cw bs cs : Nat) (M : Mp) (hP : Pm M) (h0 : k0 < 18446744073709551616) (h1 : k1 < 18446744073709551616) (key : ByteArray) (hkey : key.size ≤ 9000000000000000000) (w : World) (h : Ms k0 k1 bm bw cw bs cs M w) (hin : ∀ i, findP (sipP k0 k1) M key = some i → i < 8 * M.g) :
    Calls Tryd.prog 17 #[.pointer (some ⟨bm, 0, none⟩), .string key] w fun e w' => e = .returned (getV (getP' (sipP k0 k1) M key)) ∧ Kp All w w' := by
  have HM := hid (mmade_yes hP.g1.1 w h)
  have HF := hid (find_any k0 k1 bm bw cw bs cs M hP h0 h1 key hkey w h)
  have HMS := hid h; have HIN := hid hin; have HPP := hid hP
  rw [show getP' (sipP k0 k1) M key = (findP (sipP k0 k1) M key).map (fun i => (M.slots.getD i zslot).2) from rfl]
  clear h hin
  go_enter Tryd.func17, Tryd.ntmps17
  go_wp2_with fail
  refine HM.out.mono ?_
  rintro e w' ⟨rfl, hw⟩
  subst hw
  go_wp2_with fail
  refine HF.out.mono ?_
  rintro e w2 ⟨rfl, hk⟩
  have HK := hid hk
  clear hk
  cases hf : findP (sipP k0 k1) M key with
  | none =>
    have d1 : decide ((-1 : Int) < 0) = true := by decide
    simp only [optV]
    go_wp2_with fail
    exact bodyPost_ret (v := .tuple #[.string ByteArray.empty, .bool false]) (by simp [results, Tryd.results17, go_sem]; rfl) rfl ⟨by rw [hf]; rfl, HK.out⟩
  | some i =>
    have hi := HIN.out i hf
    have hM2 := HMS.out.all HK.out
    have c0 := blk_cell hM2.str
    obtain ⟨_, s2⟩ := hM2.slot HPP.out.slen hi
    have d1 : decide ((i : Int) < 0) = false := decide_eq_false (by omega)
    have i0 : (0 : Int) ≤ (i : Int) := by omega
    have i1 : (i : Int) < 8 * (M.g : Int) := by omega
    simp only [optV]
    obtain ⟨vv, hvv⟩ : ∃ vv, (M.slots.getD i zslot).2 = vv := ⟨_, rfl⟩
    rw [hvv] at s2
    have HV := hid hvv
    clear hvv
    go_wp2_with fail
    exact bodyPost_ret (v := .tuple #[.string vv, .bool true]) (by simp [results, Tryd.results17, go_sem]) rfl ⟨by rw [hf, Option.map_some, HV.out]; rfl, HK.out⟩
end Go.Proofs.YtodledidabdkaaaDoor
