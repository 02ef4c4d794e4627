/-
  No cell of these rows narrows 'for every input' (looked for: loops, veiled, ifaces, maps, wideKeys, modest, calm, conditions, laid).
  DERIVED. THE GIVEN ROWS OF THIS SEAT. 5 by the template 'for every input the law returns true; each argument reads behind the call as it read before'; 0 by the template 'total and deterministic' (their statements: YtipnjeciaagabaaTotals.lean).
  GIVEN WITH THE SEED: the statements are not yours to turn. If you find one false, say at which input.
  Laid BY PROGRAM, IN A SANDBOX (cutbox-rows.mjs): the forced cells as the released guide's own fill.sh prints them over the translation 8737ef9975f1cad7… (all of the seat's roots in one cut). By AI agents, Wed Nov 11 2026. No macro, syntax, notation, axiom, sorry.
-/
import Derived.Test.YtipnjeciaagabaaChecked
import GoSem.Claim
import GoSem.ClaimJoined
import GoSem.ClaimMapViews
import Derived.JoinedTies
import Derived.KernelRfl
namespace Go.Proofs.Ytipnjeciaagabaa
/- THE CELL 'sum', in the pinned program and in every row, IS THE sha256 OF THE DUMP (.gsa) THAT YtipnjeciaagabaaProg.lean LOADS. Nothing in Lean hashes anything: it is a label: what it is worth is what the hold of that sum in a sandbox is worth. -/
noncomputable def Try.pinned : Pinned := { name := "ytipnjeciaagabaa", sum := "8737ef9975f1cad7e2b3dc0a3df3b2d6b76067fae34fb02b31a3663476062b3a", checked := Try.checked }
namespace Rows
def none {H : Type} : Left H := { results := [], args := [] }

/-- 'affidavitlaw27.OfflineOrder': WHATEVER THE INPUT: true; the input reads as it did. -/
def offlineOrderSpec : ChangeSpec := { name := "offlineOrder", fn := fun _ => fun
  | [d1, d2] => { results := [.lit (.bool true)], args := [d1, d2] }
  | _ => none }
def offlineOrderRow : OpenClaim := { program := "ytipnjeciaagabaa", sum := "8737ef9975f1cad7e2b3dc0a3df3b2d6b76067fae34fb02b31a3663476062b3a", func := "affidavit/affidavitlaw27.OfflineOrder", spec := "offlineOrder", unfollowed := true, recurses := true, apart := false }
def OfflineOrderSaid : Prop := offlineOrderRow.holds Try.pinned (OpenSpec.ofChange offlineOrderSpec)

/-- ITS FALSE NEIGHBOUR: 'it returns false'. Refute it at one input. -/
def offlineOrderWrong : ChangeSpec := { name := "offlineOrder", fn := fun _ => fun
  | [d1, d2] => { results := [.lit (.bool false)], args := [d1, d2] }
  | _ => none }
def OfflineOrderWrongFalsely : Prop := offlineOrderRow.holds Try.pinned (OpenSpec.ofChange offlineOrderWrong)

/-- 'affidavitlaw27.OfflineDoes': WHATEVER THE INPUT: true; the input reads as it did. -/
def offlineDoesSpec : ChangeSpec := { name := "offlineDoes", fn := fun _ => fun
  | [d1, d2] => { results := [.lit (.bool true)], args := [d1, d2] }
  | _ => none }
def offlineDoesRow : OpenClaim := { program := "ytipnjeciaagabaa", sum := "8737ef9975f1cad7e2b3dc0a3df3b2d6b76067fae34fb02b31a3663476062b3a", func := "affidavit/affidavitlaw27.OfflineDoes", spec := "offlineDoes", unfollowed := true, recurses := true, apart := false }
def OfflineDoesSaid : Prop := offlineDoesRow.holds Try.pinned (OpenSpec.ofChange offlineDoesSpec)

/-- ITS FALSE NEIGHBOUR: 'it returns false'. Refute it at one input. -/
def offlineDoesWrong : ChangeSpec := { name := "offlineDoes", fn := fun _ => fun
  | [d1, d2] => { results := [.lit (.bool false)], args := [d1, d2] }
  | _ => none }
def OfflineDoesWrongFalsely : Prop := offlineDoesRow.holds Try.pinned (OpenSpec.ofChange offlineDoesWrong)

/-- 'affidavitlaw27.OfflineSent': WHATEVER THE INPUT: true; the input reads as it did. -/
def offlineSentSpec : ChangeSpec := { name := "offlineSent", fn := fun _ => fun
  | [d] => { results := [.lit (.bool true)], args := [d] }
  | _ => none }
def offlineSentRow : OpenClaim := { program := "ytipnjeciaagabaa", sum := "8737ef9975f1cad7e2b3dc0a3df3b2d6b76067fae34fb02b31a3663476062b3a", func := "affidavit/affidavitlaw27.OfflineSent", spec := "offlineSent", unfollowed := true, recurses := true, apart := false }
def OfflineSentSaid : Prop := offlineSentRow.holds Try.pinned (OpenSpec.ofChange offlineSentSpec)

/-- ITS FALSE NEIGHBOUR: 'it returns false'. Refute it at one input. -/
def offlineSentWrong : ChangeSpec := { name := "offlineSent", fn := fun _ => fun
  | [d] => { results := [.lit (.bool false)], args := [d] }
  | _ => none }
def OfflineSentWrongFalsely : Prop := offlineSentRow.holds Try.pinned (OpenSpec.ofChange offlineSentWrong)

/-- 'affidavitlaw27.OfflineFull': WHATEVER THE INPUT: true; the input reads as it did. -/
def offlineFullSpec : ChangeSpec := { name := "offlineFull", fn := fun _ => fun
  | [d1, d2] => { results := [.lit (.bool true)], args := [d1, d2] }
  | _ => none }
def offlineFullRow : OpenClaim := { program := "ytipnjeciaagabaa", sum := "8737ef9975f1cad7e2b3dc0a3df3b2d6b76067fae34fb02b31a3663476062b3a", func := "affidavit/affidavitlaw27.OfflineFull", spec := "offlineFull", unfollowed := true, recurses := true, apart := false }
def OfflineFullSaid : Prop := offlineFullRow.holds Try.pinned (OpenSpec.ofChange offlineFullSpec)

/-- ITS FALSE NEIGHBOUR: 'it returns false'. Refute it at one input. -/
def offlineFullWrong : ChangeSpec := { name := "offlineFull", fn := fun _ => fun
  | [d1, d2] => { results := [.lit (.bool false)], args := [d1, d2] }
  | _ => none }
def OfflineFullWrongFalsely : Prop := offlineFullRow.holds Try.pinned (OpenSpec.ofChange offlineFullWrong)

/-- 'affidavitlaw27.OfflineNone': WHATEVER THE INPUT: true; the input reads as it did. -/
def offlineNoneSpec : ChangeSpec := { name := "offlineNone", fn := fun _ => fun
  | [d] => { results := [.lit (.bool true)], args := [d] }
  | _ => none }
def offlineNoneRow : OpenClaim := { program := "ytipnjeciaagabaa", sum := "8737ef9975f1cad7e2b3dc0a3df3b2d6b76067fae34fb02b31a3663476062b3a", func := "affidavit/affidavitlaw27.OfflineNone", spec := "offlineNone", unfollowed := true, recurses := true, apart := false }
def OfflineNoneSaid : Prop := offlineNoneRow.holds Try.pinned (OpenSpec.ofChange offlineNoneSpec)

/-- ITS FALSE NEIGHBOUR: 'it returns false'. Refute it at one input. -/
def offlineNoneWrong : ChangeSpec := { name := "offlineNone", fn := fun _ => fun
  | [d] => { results := [.lit (.bool false)], args := [d] }
  | _ => none }
def OfflineNoneWrongFalsely : Prop := offlineNoneRow.holds Try.pinned (OpenSpec.ofChange offlineNoneWrong)

/- THE SECOND FORM. 'bulk': how many values and letters a reading holds, each counted each time it is reached (what is shared counts as often as it is met; a slice's spare places count too). A statement '..UptoSaid' is the law's where the arguments, and the package variables that the reading takes, are together of bulk at most 1048576: NARROWER than '..Said'. Prove '..Said' where nothing that the law and all that it calls make is longer than what came in: it says more and counts as full. Else prove '..UptoSaid'. A law counts once. -/
mutual
def uptoBulk {H : Type} : DataW H → Nat
  | .lit (.string bytes) => bytes.length + 1
  | .lit _ => 1
  | .nil => 1
  | .ptr d => uptoBulk d + 1
  | .slice elems spare => uptoBulkAll elems + uptoBulkAll spare + 1
  | .agg parts => uptoBulkAll parts + 1
  | .iface _ d => uptoBulk d + 1
  | .map entries => uptoBulkEntries entries + 1
  | .held _ => 1
def uptoBulkAll {H : Type} : List (DataW H) → Nat
  | [] => 0
  | d :: r => uptoBulk d + uptoBulkAll r
def uptoBulkEntries {H : Type} : List (Lit × DataW H) → Nat
  | [] => 0
  | x :: r => uptoBulkEntry x + uptoBulkEntries r
def uptoBulkEntry {H : Type} : Lit × DataW H → Nat
  | (.string bytes, d) => bytes.length + uptoBulk d + 1
  | (_, d) => uptoBulk d + 1
 end
def uptoSmall : (H : Type) → List (DataW H) → Bool := fun _ ds => decide (uptoBulkAll ds ≤ 1048576)
def OpenSpec.upto (s : _root_.Go.ChangeSpec) : _root_.Go.OpenSpec := { _root_.Go.OpenSpec.ofChange s with cond := some uptoSmall }

/-- 'affidavitlaw27.OfflineOrder', WHERE WHAT IT READS IS OF BULK AT MOST 1048576: true; the input reads as it did. -/
def offlineOrderUptoRow : OpenClaim := { program := "ytipnjeciaagabaa", sum := "8737ef9975f1cad7e2b3dc0a3df3b2d6b76067fae34fb02b31a3663476062b3a", func := "affidavit/affidavitlaw27.OfflineOrder", spec := "offlineOrder", unfollowed := true, recurses := true, apart := false, narrowed := true }
def OfflineOrderUptoSaid : Prop := offlineOrderUptoRow.holds Try.pinned (OpenSpec.upto offlineOrderSpec)

/-- 'affidavitlaw27.OfflineDoes', WHERE WHAT IT READS IS OF BULK AT MOST 1048576: true; the input reads as it did. -/
def offlineDoesUptoRow : OpenClaim := { program := "ytipnjeciaagabaa", sum := "8737ef9975f1cad7e2b3dc0a3df3b2d6b76067fae34fb02b31a3663476062b3a", func := "affidavit/affidavitlaw27.OfflineDoes", spec := "offlineDoes", unfollowed := true, recurses := true, apart := false, narrowed := true }
def OfflineDoesUptoSaid : Prop := offlineDoesUptoRow.holds Try.pinned (OpenSpec.upto offlineDoesSpec)

/-- 'affidavitlaw27.OfflineSent', WHERE WHAT IT READS IS OF BULK AT MOST 1048576: true; the input reads as it did. -/
def offlineSentUptoRow : OpenClaim := { program := "ytipnjeciaagabaa", sum := "8737ef9975f1cad7e2b3dc0a3df3b2d6b76067fae34fb02b31a3663476062b3a", func := "affidavit/affidavitlaw27.OfflineSent", spec := "offlineSent", unfollowed := true, recurses := true, apart := false, narrowed := true }
def OfflineSentUptoSaid : Prop := offlineSentUptoRow.holds Try.pinned (OpenSpec.upto offlineSentSpec)

/-- 'affidavitlaw27.OfflineFull', WHERE WHAT IT READS IS OF BULK AT MOST 1048576: true; the input reads as it did. -/
def offlineFullUptoRow : OpenClaim := { program := "ytipnjeciaagabaa", sum := "8737ef9975f1cad7e2b3dc0a3df3b2d6b76067fae34fb02b31a3663476062b3a", func := "affidavit/affidavitlaw27.OfflineFull", spec := "offlineFull", unfollowed := true, recurses := true, apart := false, narrowed := true }
def OfflineFullUptoSaid : Prop := offlineFullUptoRow.holds Try.pinned (OpenSpec.upto offlineFullSpec)

/-- 'affidavitlaw27.OfflineNone', WHERE WHAT IT READS IS OF BULK AT MOST 1048576: true; the input reads as it did. -/
def offlineNoneUptoRow : OpenClaim := { program := "ytipnjeciaagabaa", sum := "8737ef9975f1cad7e2b3dc0a3df3b2d6b76067fae34fb02b31a3663476062b3a", func := "affidavit/affidavitlaw27.OfflineNone", spec := "offlineNone", unfollowed := true, recurses := true, apart := false, narrowed := true }
def OfflineNoneUptoSaid : Prop := offlineNoneUptoRow.holds Try.pinned (OpenSpec.upto offlineNoneSpec)

end Rows
end Go.Proofs.Ytipnjeciaagabaa
