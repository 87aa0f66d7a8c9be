/-
  No cell of these rows narrows 'for every input' (looked for: loops, veiled, ifaces, maps, wideKeys, modest, calm, conditions, laid).
  DERIVED. THE GIVEN ROWS OF THIS SEAT. 5 by the template 'for every input the law returns true; each argument reads behind the call as it read before'; 0 by the template 'total and deterministic' (their statements: YtkipijdbkkcioaaTotals.lean).
  GIVEN WITH THE SEED: the statements are not yours to turn. If you find one false, say at which input.
  Laid BY PROGRAM, IN A SANDBOX (cutbox-rows.mjs): the forced cells as the released guide's own fill.sh prints them over the translation 63b06fbe775b55cb… (all of the seat's roots in one cut). By AI agents, Wed Nov 11 2026. No macro, syntax, notation, axiom, sorry.
-/
import Derived.Test.YtkipijdbkkcioaaChecked
import GoSem.Claim
import GoSem.ClaimJoined
import GoSem.ClaimMapViews
import Derived.JoinedTies
import Derived.KernelRfl
namespace Go.Proofs.Ytkipijdbkkcioaa
/- THE CELL 'sum', in the pinned program and in every row, IS THE sha256 OF THE DUMP (.gsa) THAT YtkipijdbkkcioaaProg.lean LOADS. Nothing in Lean hashes anything: it is a label: what it is worth is what the hold of that sum in a sandbox is worth. -/
noncomputable def Try.pinned : Pinned := { name := "ytkipijdbkkcioaa", sum := "63b06fbe775b55cbf329ff1113ba3c60781f8e4efc6fa8b28ebf98003011495f", checked := Try.checked }
namespace Rows
def none {H : Type} : Left H := { results := [], args := [] }

/-- 'corbellaw19.SessionApart': WHATEVER THE INPUT: true; the input reads as it did. -/
def sessionApartSpec : ChangeSpec := { name := "sessionApart", fn := fun _ => fun
  | [d1, d2] => { results := [.lit (.bool true)], args := [d1, d2] }
  | _ => none }
def sessionApartRow : OpenClaim := { program := "ytkipijdbkkcioaa", sum := "63b06fbe775b55cbf329ff1113ba3c60781f8e4efc6fa8b28ebf98003011495f", func := "corbel/corbellaw19.SessionApart", spec := "sessionApart", apart := false }
def SessionApartSaid : Prop := sessionApartRow.holds Try.pinned (OpenSpec.ofChange sessionApartSpec)

/-- ITS FALSE NEIGHBOUR: 'it returns false'. Refute it at one input. -/
def sessionApartWrong : ChangeSpec := { name := "sessionApart", fn := fun _ => fun
  | [d1, d2] => { results := [.lit (.bool false)], args := [d1, d2] }
  | _ => none }
def SessionApartWrongFalsely : Prop := sessionApartRow.holds Try.pinned (OpenSpec.ofChange sessionApartWrong)

/-- 'corbellaw19.SessionMost': WHATEVER THE INPUT: true; the input reads as it did. -/
def sessionMostSpec : ChangeSpec := { name := "sessionMost", fn := fun _ => fun
  | [d] => { results := [.lit (.bool true)], args := [d] }
  | _ => none }
def sessionMostRow : OpenClaim := { program := "ytkipijdbkkcioaa", sum := "63b06fbe775b55cbf329ff1113ba3c60781f8e4efc6fa8b28ebf98003011495f", func := "corbel/corbellaw19.SessionMost", spec := "sessionMost", unfollowed := true, recurses := true, apart := false }
def SessionMostSaid : Prop := sessionMostRow.holds Try.pinned (OpenSpec.ofChange sessionMostSpec)

/-- ITS FALSE NEIGHBOUR: 'it returns false'. Refute it at one input. -/
def sessionMostWrong : ChangeSpec := { name := "sessionMost", fn := fun _ => fun
  | [d] => { results := [.lit (.bool false)], args := [d] }
  | _ => none }
def SessionMostWrongFalsely : Prop := sessionMostRow.holds Try.pinned (OpenSpec.ofChange sessionMostWrong)

/-- 'corbellaw19.SessionActs': WHATEVER THE INPUT: true; the input reads as it did. -/
def sessionActsSpec : ChangeSpec := { name := "sessionActs", fn := fun _ => fun
  | [d] => { results := [.lit (.bool true)], args := [d] }
  | _ => none }
def sessionActsRow : OpenClaim := { program := "ytkipijdbkkcioaa", sum := "63b06fbe775b55cbf329ff1113ba3c60781f8e4efc6fa8b28ebf98003011495f", func := "corbel/corbellaw19.SessionActs", spec := "sessionActs", unfollowed := true, recurses := true, apart := false }
def SessionActsSaid : Prop := sessionActsRow.holds Try.pinned (OpenSpec.ofChange sessionActsSpec)

/-- ITS FALSE NEIGHBOUR: 'it returns false'. Refute it at one input. -/
def sessionActsWrong : ChangeSpec := { name := "sessionActs", fn := fun _ => fun
  | [d] => { results := [.lit (.bool false)], args := [d] }
  | _ => none }
def SessionActsWrongFalsely : Prop := sessionActsRow.holds Try.pinned (OpenSpec.ofChange sessionActsWrong)

/-- 'corbellaw19.SessionNone': WHATEVER THE INPUT: true; the input reads as it did. -/
def sessionNoneSpec : ChangeSpec := { name := "sessionNone", fn := fun _ => fun
  | [d] => { results := [.lit (.bool true)], args := [d] }
  | _ => none }
def sessionNoneRow : OpenClaim := { program := "ytkipijdbkkcioaa", sum := "63b06fbe775b55cbf329ff1113ba3c60781f8e4efc6fa8b28ebf98003011495f", func := "corbel/corbellaw19.SessionNone", spec := "sessionNone", unfollowed := true, recurses := true, apart := false }
def SessionNoneSaid : Prop := sessionNoneRow.holds Try.pinned (OpenSpec.ofChange sessionNoneSpec)

/-- ITS FALSE NEIGHBOUR: 'it returns false'. Refute it at one input. -/
def sessionNoneWrong : ChangeSpec := { name := "sessionNone", fn := fun _ => fun
  | [d] => { results := [.lit (.bool false)], args := [d] }
  | _ => none }
def SessionNoneWrongFalsely : Prop := sessionNoneRow.holds Try.pinned (OpenSpec.ofChange sessionNoneWrong)

/-- 'corbellaw19.SessionOnce': WHATEVER THE INPUT: true; the input reads as it did. -/
def sessionOnceSpec : ChangeSpec := { name := "sessionOnce", fn := fun _ => fun
  | [d1, d2] => { results := [.lit (.bool true)], args := [d1, d2] }
  | _ => none }
def sessionOnceRow : OpenClaim := { program := "ytkipijdbkkcioaa", sum := "63b06fbe775b55cbf329ff1113ba3c60781f8e4efc6fa8b28ebf98003011495f", func := "corbel/corbellaw19.SessionOnce", spec := "sessionOnce", unfollowed := true, recurses := true, apart := false }
def SessionOnceSaid : Prop := sessionOnceRow.holds Try.pinned (OpenSpec.ofChange sessionOnceSpec)

/-- ITS FALSE NEIGHBOUR: 'it returns false'. Refute it at one input. -/
def sessionOnceWrong : ChangeSpec := { name := "sessionOnce", fn := fun _ => fun
  | [d1, d2] => { results := [.lit (.bool false)], args := [d1, d2] }
  | _ => none }
def SessionOnceWrongFalsely : Prop := sessionOnceRow.holds Try.pinned (OpenSpec.ofChange sessionOnceWrong)

/- THE SECOND FORM. 'bulk': how many values and letters a reading holds, each counted each time it is reached (what is shared counts as often as it is met; a slice's spare places count too). A statement '..UptoSaid' is the law's where the arguments, and the package variables that the reading takes, are together of bulk at most 1048576: NARROWER than '..Said'. Prove '..Said' where nothing that the law and all that it calls make is longer than what came in: it says more and counts as full. Else prove '..UptoSaid'. A law counts once. -/
mutual
def uptoBulk {H : Type} : DataW H → Nat
  | .lit (.string bytes) => bytes.length + 1
  | .lit _ => 1
  | .nil => 1
  | .ptr d => uptoBulk d + 1
  | .slice elems spare => uptoBulkAll elems + uptoBulkAll spare + 1
  | .agg parts => uptoBulkAll parts + 1
  | .iface _ d => uptoBulk d + 1
  | .map entries => uptoBulkEntries entries + 1
  | .held _ => 1
def uptoBulkAll {H : Type} : List (DataW H) → Nat
  | [] => 0
  | d :: r => uptoBulk d + uptoBulkAll r
def uptoBulkEntries {H : Type} : List (Lit × DataW H) → Nat
  | [] => 0
  | x :: r => uptoBulkEntry x + uptoBulkEntries r
def uptoBulkEntry {H : Type} : Lit × DataW H → Nat
  | (.string bytes, d) => bytes.length + uptoBulk d + 1
  | (_, d) => uptoBulk d + 1
 end
def uptoSmall : (H : Type) → List (DataW H) → Bool := fun _ ds => decide (uptoBulkAll ds ≤ 1048576)
def OpenSpec.upto (s : _root_.Go.ChangeSpec) : _root_.Go.OpenSpec := { _root_.Go.OpenSpec.ofChange s with cond := some uptoSmall }

/-- 'corbellaw19.SessionApart', WHERE WHAT IT READS IS OF BULK AT MOST 1048576: true; the input reads as it did. -/
def sessionApartUptoRow : OpenClaim := { program := "ytkipijdbkkcioaa", sum := "63b06fbe775b55cbf329ff1113ba3c60781f8e4efc6fa8b28ebf98003011495f", func := "corbel/corbellaw19.SessionApart", spec := "sessionApart", apart := false, narrowed := true }
def SessionApartUptoSaid : Prop := sessionApartUptoRow.holds Try.pinned (OpenSpec.upto sessionApartSpec)

/-- 'corbellaw19.SessionMost', WHERE WHAT IT READS IS OF BULK AT MOST 1048576: true; the input reads as it did. -/
def sessionMostUptoRow : OpenClaim := { program := "ytkipijdbkkcioaa", sum := "63b06fbe775b55cbf329ff1113ba3c60781f8e4efc6fa8b28ebf98003011495f", func := "corbel/corbellaw19.SessionMost", spec := "sessionMost", unfollowed := true, recurses := true, apart := false, narrowed := true }
def SessionMostUptoSaid : Prop := sessionMostUptoRow.holds Try.pinned (OpenSpec.upto sessionMostSpec)

/-- 'corbellaw19.SessionActs', WHERE WHAT IT READS IS OF BULK AT MOST 1048576: true; the input reads as it did. -/
def sessionActsUptoRow : OpenClaim := { program := "ytkipijdbkkcioaa", sum := "63b06fbe775b55cbf329ff1113ba3c60781f8e4efc6fa8b28ebf98003011495f", func := "corbel/corbellaw19.SessionActs", spec := "sessionActs", unfollowed := true, recurses := true, apart := false, narrowed := true }
def SessionActsUptoSaid : Prop := sessionActsUptoRow.holds Try.pinned (OpenSpec.upto sessionActsSpec)

/-- 'corbellaw19.SessionNone', WHERE WHAT IT READS IS OF BULK AT MOST 1048576: true; the input reads as it did. -/
def sessionNoneUptoRow : OpenClaim := { program := "ytkipijdbkkcioaa", sum := "63b06fbe775b55cbf329ff1113ba3c60781f8e4efc6fa8b28ebf98003011495f", func := "corbel/corbellaw19.SessionNone", spec := "sessionNone", unfollowed := true, recurses := true, apart := false, narrowed := true }
def SessionNoneUptoSaid : Prop := sessionNoneUptoRow.holds Try.pinned (OpenSpec.upto sessionNoneSpec)

/-- 'corbellaw19.SessionOnce', WHERE WHAT IT READS IS OF BULK AT MOST 1048576: true; the input reads as it did. -/
def sessionOnceUptoRow : OpenClaim := { program := "ytkipijdbkkcioaa", sum := "63b06fbe775b55cbf329ff1113ba3c60781f8e4efc6fa8b28ebf98003011495f", func := "corbel/corbellaw19.SessionOnce", spec := "sessionOnce", unfollowed := true, recurses := true, apart := false, narrowed := true }
def SessionOnceUptoSaid : Prop := sessionOnceUptoRow.holds Try.pinned (OpenSpec.upto sessionOnceSpec)

end Rows
end Go.Proofs.Ytkipijdbkkcioaa
