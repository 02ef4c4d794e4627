/-
  No cell of these rows narrows 'for every input' (looked for: loops, veiled, ifaces, maps, wideKeys, modest, calm, conditions, laid).
  DERIVED. THE GIVEN ROWS OF THIS SEAT. 4 by the template 'for every input the law returns true; each argument reads behind the call as it read before'; 0 by the template 'total and deterministic' (their statements: YtndndlofepehiaaTotals.lean).
  GIVEN WITH THE SEED: the statements are not yours to turn. If you find one false, say at which input.
  Laid BY PROGRAM, IN A SANDBOX (cutbox-rows.mjs): the forced cells as the released guide's own fill.sh prints them over the translation 1f210c62d9d59ff8… (all of the seat's roots in one cut). By AI agents, Wed Nov 11 2026. No macro, syntax, notation, axiom, sorry.
-/
import Derived.Test.YtndndlofepehiaaChecked
import GoSem.Claim
import GoSem.ClaimJoined
import GoSem.ClaimMapViews
import Derived.JoinedTies
import Derived.KernelRfl
namespace Go.Proofs.Ytndndlofepehiaa
/- THE CELL 'sum', in the pinned program and in every row, IS THE sha256 OF THE DUMP (.gsa) THAT YtndndlofepehiaaProg.lean LOADS. Nothing in Lean hashes anything: it is a label: what it is worth is what the hold of that sum in a sandbox is worth. -/
noncomputable def Try.pinned : Pinned := { name := "ytndndlofepehiaa", sum := "1f210c62d9d59ff8b4c724e09c55246eba4c01ef69e2a62e2e97695b7b0688fd", checked := Try.checked }
namespace Rows
def none {H : Type} : Left H := { results := [], args := [] }

/-- 'affidavitlaw12.RegsDo': WHATEVER THE INPUT: true; the input reads as it did. -/
def regsDoSpec : ChangeSpec := { name := "regsDo", fn := fun _ => fun
  | [d1, d2] => { results := [.lit (.bool true)], args := [d1, d2] }
  | _ => none }
def regsDoRow : OpenClaim := { program := "ytndndlofepehiaa", sum := "1f210c62d9d59ff8b4c724e09c55246eba4c01ef69e2a62e2e97695b7b0688fd", func := "affidavit/affidavitlaw12.RegsDo", spec := "regsDo", unfollowed := true, recurses := true, apart := false }
def RegsDoSaid : Prop := regsDoRow.holds Try.pinned (OpenSpec.ofChange regsDoSpec)

/-- ITS FALSE NEIGHBOUR: 'it returns false'. Refute it at one input. -/
def regsDoWrong : ChangeSpec := { name := "regsDo", fn := fun _ => fun
  | [d1, d2] => { results := [.lit (.bool false)], args := [d1, d2] }
  | _ => none }
def RegsDoWrongFalsely : Prop := regsDoRow.holds Try.pinned (OpenSpec.ofChange regsDoWrong)

/-- 'affidavitlaw12.RegsOrder': WHATEVER THE INPUT: true; the input reads as it did. -/
def regsOrderSpec : ChangeSpec := { name := "regsOrder", fn := fun _ => fun
  | [d1, d2] => { results := [.lit (.bool true)], args := [d1, d2] }
  | _ => none }
def regsOrderRow : OpenClaim := { program := "ytndndlofepehiaa", sum := "1f210c62d9d59ff8b4c724e09c55246eba4c01ef69e2a62e2e97695b7b0688fd", func := "affidavit/affidavitlaw12.RegsOrder", spec := "regsOrder", unfollowed := true, recurses := true, apart := false }
def RegsOrderSaid : Prop := regsOrderRow.holds Try.pinned (OpenSpec.ofChange regsOrderSpec)

/-- ITS FALSE NEIGHBOUR: 'it returns false'. Refute it at one input. -/
def regsOrderWrong : ChangeSpec := { name := "regsOrder", fn := fun _ => fun
  | [d1, d2] => { results := [.lit (.bool false)], args := [d1, d2] }
  | _ => none }
def RegsOrderWrongFalsely : Prop := regsOrderRow.holds Try.pinned (OpenSpec.ofChange regsOrderWrong)

/-- 'affidavitlaw12.RegsAgain': WHATEVER THE INPUT: true; the input reads as it did. -/
def regsAgainSpec : ChangeSpec := { name := "regsAgain", fn := fun _ => fun
  | [d] => { results := [.lit (.bool true)], args := [d] }
  | _ => none }
def regsAgainRow : OpenClaim := { program := "ytndndlofepehiaa", sum := "1f210c62d9d59ff8b4c724e09c55246eba4c01ef69e2a62e2e97695b7b0688fd", func := "affidavit/affidavitlaw12.RegsAgain", spec := "regsAgain", unfollowed := true, recurses := true, apart := false }
def RegsAgainSaid : Prop := regsAgainRow.holds Try.pinned (OpenSpec.ofChange regsAgainSpec)

/-- ITS FALSE NEIGHBOUR: 'it returns false'. Refute it at one input. -/
def regsAgainWrong : ChangeSpec := { name := "regsAgain", fn := fun _ => fun
  | [d] => { results := [.lit (.bool false)], args := [d] }
  | _ => none }
def RegsAgainWrongFalsely : Prop := regsAgainRow.holds Try.pinned (OpenSpec.ofChange regsAgainWrong)

/-- 'affidavitlaw12.RegsNone': WHATEVER THE INPUT: true; the input reads as it did. -/
def regsNoneSpec : ChangeSpec := { name := "regsNone", fn := fun _ => fun
  | [d] => { results := [.lit (.bool true)], args := [d] }
  | _ => none }
def regsNoneRow : OpenClaim := { program := "ytndndlofepehiaa", sum := "1f210c62d9d59ff8b4c724e09c55246eba4c01ef69e2a62e2e97695b7b0688fd", func := "affidavit/affidavitlaw12.RegsNone", spec := "regsNone", unfollowed := true, recurses := true, apart := false }
def RegsNoneSaid : Prop := regsNoneRow.holds Try.pinned (OpenSpec.ofChange regsNoneSpec)

/-- ITS FALSE NEIGHBOUR: 'it returns false'. Refute it at one input. -/
def regsNoneWrong : ChangeSpec := { name := "regsNone", fn := fun _ => fun
  | [d] => { results := [.lit (.bool false)], args := [d] }
  | _ => none }
def RegsNoneWrongFalsely : Prop := regsNoneRow.holds Try.pinned (OpenSpec.ofChange regsNoneWrong)

/- THE SECOND FORM. 'bulk': how many values and letters a reading holds, each counted each time it is reached (what is shared counts as often as it is met; a slice's spare places count too). A statement '..UptoSaid' is the law's where the arguments, and the package variables that the reading takes, are together of bulk at most 1048576: NARROWER than '..Said'. Prove '..Said' where nothing that the law and all that it calls make is longer than what came in: it says more and counts as full. Else prove '..UptoSaid'. A law counts once. -/
mutual
def uptoBulk {H : Type} : DataW H → Nat
  | .lit (.string bytes) => bytes.length + 1
  | .lit _ => 1
  | .nil => 1
  | .ptr d => uptoBulk d + 1
  | .slice elems spare => uptoBulkAll elems + uptoBulkAll spare + 1
  | .agg parts => uptoBulkAll parts + 1
  | .iface _ d => uptoBulk d + 1
  | .map entries => uptoBulkEntries entries + 1
  | .held _ => 1
def uptoBulkAll {H : Type} : List (DataW H) → Nat
  | [] => 0
  | d :: r => uptoBulk d + uptoBulkAll r
def uptoBulkEntries {H : Type} : List (Lit × DataW H) → Nat
  | [] => 0
  | x :: r => uptoBulkEntry x + uptoBulkEntries r
def uptoBulkEntry {H : Type} : Lit × DataW H → Nat
  | (.string bytes, d) => bytes.length + uptoBulk d + 1
  | (_, d) => uptoBulk d + 1
 end
def uptoSmall : (H : Type) → List (DataW H) → Bool := fun _ ds => decide (uptoBulkAll ds ≤ 1048576)
def OpenSpec.upto (s : _root_.Go.ChangeSpec) : _root_.Go.OpenSpec := { _root_.Go.OpenSpec.ofChange s with cond := some uptoSmall }

/-- 'affidavitlaw12.RegsDo', WHERE WHAT IT READS IS OF BULK AT MOST 1048576: true; the input reads as it did. -/
def regsDoUptoRow : OpenClaim := { program := "ytndndlofepehiaa", sum := "1f210c62d9d59ff8b4c724e09c55246eba4c01ef69e2a62e2e97695b7b0688fd", func := "affidavit/affidavitlaw12.RegsDo", spec := "regsDo", unfollowed := true, recurses := true, apart := false, narrowed := true }
def RegsDoUptoSaid : Prop := regsDoUptoRow.holds Try.pinned (OpenSpec.upto regsDoSpec)

/-- 'affidavitlaw12.RegsOrder', WHERE WHAT IT READS IS OF BULK AT MOST 1048576: true; the input reads as it did. -/
def regsOrderUptoRow : OpenClaim := { program := "ytndndlofepehiaa", sum := "1f210c62d9d59ff8b4c724e09c55246eba4c01ef69e2a62e2e97695b7b0688fd", func := "affidavit/affidavitlaw12.RegsOrder", spec := "regsOrder", unfollowed := true, recurses := true, apart := false, narrowed := true }
def RegsOrderUptoSaid : Prop := regsOrderUptoRow.holds Try.pinned (OpenSpec.upto regsOrderSpec)

/-- 'affidavitlaw12.RegsAgain', WHERE WHAT IT READS IS OF BULK AT MOST 1048576: true; the input reads as it did. -/
def regsAgainUptoRow : OpenClaim := { program := "ytndndlofepehiaa", sum := "1f210c62d9d59ff8b4c724e09c55246eba4c01ef69e2a62e2e97695b7b0688fd", func := "affidavit/affidavitlaw12.RegsAgain", spec := "regsAgain", unfollowed := true, recurses := true, apart := false, narrowed := true }
def RegsAgainUptoSaid : Prop := regsAgainUptoRow.holds Try.pinned (OpenSpec.upto regsAgainSpec)

/-- 'affidavitlaw12.RegsNone', WHERE WHAT IT READS IS OF BULK AT MOST 1048576: true; the input reads as it did. -/
def regsNoneUptoRow : OpenClaim := { program := "ytndndlofepehiaa", sum := "1f210c62d9d59ff8b4c724e09c55246eba4c01ef69e2a62e2e97695b7b0688fd", func := "affidavit/affidavitlaw12.RegsNone", spec := "regsNone", unfollowed := true, recurses := true, apart := false, narrowed := true }
def RegsNoneUptoSaid : Prop := regsNoneUptoRow.holds Try.pinned (OpenSpec.upto regsNoneSpec)

end Rows
end Go.Proofs.Ytndndlofepehiaa
