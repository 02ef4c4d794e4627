/-
  No cell of these rows narrows 'for every input' (looked for: loops, veiled, ifaces, maps, wideKeys, modest, calm, conditions, laid).
  DERIVED. THE GIVEN ROWS OF THIS SEAT. 5 by the template 'for every input the law returns true; each argument reads behind the call as it read before'; 0 by the template 'total and deterministic' (their statements: YtjhldllkjmlabaaTotals.lean).
  GIVEN WITH THE SEED: the statements are not yours to turn. If you find one false, say at which input.
  Laid BY PROGRAM, IN A SANDBOX (cutbox-rows.mjs): the forced cells as the released guide's own fill.sh prints them over the translation 0b46c6fe62ea2dc0… (all of the seat's roots in one cut). By AI agents, Wed Nov 11 2026. No macro, syntax, notation, axiom, sorry.
-/
import Derived.Test.YtjhldllkjmlabaaChecked
import GoSem.Claim
import GoSem.ClaimJoined
import GoSem.ClaimMapViews
import Derived.JoinedTies
import Derived.KernelRfl
namespace Go.Proofs.Ytjhldllkjmlabaa
/- THE CELL 'sum', in the pinned program and in every row, IS THE sha256 OF THE DUMP (.gsa) THAT YtjhldllkjmlabaaProg.lean LOADS. Nothing in Lean hashes anything: it is a label: what it is worth is what the hold of that sum in a sandbox is worth. -/
noncomputable def Try.pinned : Pinned := { name := "ytjhldllkjmlabaa", sum := "0b46c6fe62ea2dc01613a74fa00cc7aedeba5d171b76ceba0be22e6b3838c0c0", checked := Try.checked }
namespace Rows
def none {H : Type} : Left H := { results := [], args := [] }

/-- 'affidavitlaw11.BlobsKept': WHATEVER THE INPUT: true; the input reads as it did. -/
def blobsKeptSpec : ChangeSpec := { name := "blobsKept", fn := fun _ => fun
  | [d1, d2, d3] => { results := [.lit (.bool true)], args := [d1, d2, d3] }
  | _ => none }
def blobsKeptRow : OpenClaim := { program := "ytjhldllkjmlabaa", sum := "0b46c6fe62ea2dc01613a74fa00cc7aedeba5d171b76ceba0be22e6b3838c0c0", func := "affidavit/affidavitlaw11.BlobsKept", spec := "blobsKept", plainKeys := false, apart := false }
def BlobsKeptSaid : Prop := blobsKeptRow.holds Try.pinned (OpenSpec.ofChange blobsKeptSpec)

/-- ITS FALSE NEIGHBOUR: 'it returns false'. Refute it at one input. -/
def blobsKeptWrong : ChangeSpec := { name := "blobsKept", fn := fun _ => fun
  | [d1, d2, d3] => { results := [.lit (.bool false)], args := [d1, d2, d3] }
  | _ => none }
def BlobsKeptWrongFalsely : Prop := blobsKeptRow.holds Try.pinned (OpenSpec.ofChange blobsKeptWrong)

/-- 'affidavitlaw11.BlobsDo': WHATEVER THE INPUT: true; the input reads as it did. -/
def blobsDoSpec : ChangeSpec := { name := "blobsDo", fn := fun _ => fun
  | [d1, d2] => { results := [.lit (.bool true)], args := [d1, d2] }
  | _ => none }
def blobsDoRow : OpenClaim := { program := "ytjhldllkjmlabaa", sum := "0b46c6fe62ea2dc01613a74fa00cc7aedeba5d171b76ceba0be22e6b3838c0c0", func := "affidavit/affidavitlaw11.BlobsDo", spec := "blobsDo", recurses := true, plainKeys := false, apart := false }
def BlobsDoSaid : Prop := blobsDoRow.holds Try.pinned (OpenSpec.ofChange blobsDoSpec)

/-- ITS FALSE NEIGHBOUR: 'it returns false'. Refute it at one input. -/
def blobsDoWrong : ChangeSpec := { name := "blobsDo", fn := fun _ => fun
  | [d1, d2] => { results := [.lit (.bool false)], args := [d1, d2] }
  | _ => none }
def BlobsDoWrongFalsely : Prop := blobsDoRow.holds Try.pinned (OpenSpec.ofChange blobsDoWrong)

/-- 'affidavitlaw11.BlobsApart': WHATEVER THE INPUT: true; the input reads as it did. -/
def blobsApartSpec : ChangeSpec := { name := "blobsApart", fn := fun _ => fun
  | [d1, d2, d3] => { results := [.lit (.bool true)], args := [d1, d2, d3] }
  | _ => none }
def blobsApartRow : OpenClaim := { program := "ytjhldllkjmlabaa", sum := "0b46c6fe62ea2dc01613a74fa00cc7aedeba5d171b76ceba0be22e6b3838c0c0", func := "affidavit/affidavitlaw11.BlobsApart", spec := "blobsApart", recurses := true, plainKeys := false, apart := false }
def BlobsApartSaid : Prop := blobsApartRow.holds Try.pinned (OpenSpec.ofChange blobsApartSpec)

/-- ITS FALSE NEIGHBOUR: 'it returns false'. Refute it at one input. -/
def blobsApartWrong : ChangeSpec := { name := "blobsApart", fn := fun _ => fun
  | [d1, d2, d3] => { results := [.lit (.bool false)], args := [d1, d2, d3] }
  | _ => none }
def BlobsApartWrongFalsely : Prop := blobsApartRow.holds Try.pinned (OpenSpec.ofChange blobsApartWrong)

/-- 'affidavitlaw11.BlobsWithin': WHATEVER THE INPUT: true; the input reads as it did. -/
def blobsWithinSpec : ChangeSpec := { name := "blobsWithin", fn := fun _ => fun
  | [d] => { results := [.lit (.bool true)], args := [d] }
  | _ => none }
def blobsWithinRow : OpenClaim := { program := "ytjhldllkjmlabaa", sum := "0b46c6fe62ea2dc01613a74fa00cc7aedeba5d171b76ceba0be22e6b3838c0c0", func := "affidavit/affidavitlaw11.BlobsWithin", spec := "blobsWithin", recurses := true, plainKeys := false, apart := false }
def BlobsWithinSaid : Prop := blobsWithinRow.holds Try.pinned (OpenSpec.ofChange blobsWithinSpec)

/-- ITS FALSE NEIGHBOUR: 'it returns false'. Refute it at one input. -/
def blobsWithinWrong : ChangeSpec := { name := "blobsWithin", fn := fun _ => fun
  | [d] => { results := [.lit (.bool false)], args := [d] }
  | _ => none }
def BlobsWithinWrongFalsely : Prop := blobsWithinRow.holds Try.pinned (OpenSpec.ofChange blobsWithinWrong)

/-- 'affidavitlaw11.BlobsNone': WHATEVER THE INPUT: true; the input reads as it did. -/
def blobsNoneSpec : ChangeSpec := { name := "blobsNone", fn := fun _ => fun
  | [d] => { results := [.lit (.bool true)], args := [d] }
  | _ => none }
def blobsNoneRow : OpenClaim := { program := "ytjhldllkjmlabaa", sum := "0b46c6fe62ea2dc01613a74fa00cc7aedeba5d171b76ceba0be22e6b3838c0c0", func := "affidavit/affidavitlaw11.BlobsNone", spec := "blobsNone", recurses := true, plainKeys := false, apart := false }
def BlobsNoneSaid : Prop := blobsNoneRow.holds Try.pinned (OpenSpec.ofChange blobsNoneSpec)

/-- ITS FALSE NEIGHBOUR: 'it returns false'. Refute it at one input. -/
def blobsNoneWrong : ChangeSpec := { name := "blobsNone", fn := fun _ => fun
  | [d] => { results := [.lit (.bool false)], args := [d] }
  | _ => none }
def BlobsNoneWrongFalsely : Prop := blobsNoneRow.holds Try.pinned (OpenSpec.ofChange blobsNoneWrong)

/- THE SECOND FORM. 'bulk': how many values and letters a reading holds, each counted each time it is reached (what is shared counts as often as it is met; a slice's spare places count too). A statement '..UptoSaid' is the law's where the arguments, and the package variables that the reading takes, are together of bulk at most 1048576: NARROWER than '..Said'. Prove '..Said' where nothing that the law and all that it calls make is longer than what came in: it says more and counts as full. Else prove '..UptoSaid'. A law counts once. -/
mutual
def uptoBulk {H : Type} : DataW H → Nat
  | .lit (.string bytes) => bytes.length + 1
  | .lit _ => 1
  | .nil => 1
  | .ptr d => uptoBulk d + 1
  | .slice elems spare => uptoBulkAll elems + uptoBulkAll spare + 1
  | .agg parts => uptoBulkAll parts + 1
  | .iface _ d => uptoBulk d + 1
  | .map entries => uptoBulkEntries entries + 1
  | .held _ => 1
def uptoBulkAll {H : Type} : List (DataW H) → Nat
  | [] => 0
  | d :: r => uptoBulk d + uptoBulkAll r
def uptoBulkEntries {H : Type} : List (Lit × DataW H) → Nat
  | [] => 0
  | x :: r => uptoBulkEntry x + uptoBulkEntries r
def uptoBulkEntry {H : Type} : Lit × DataW H → Nat
  | (.string bytes, d) => bytes.length + uptoBulk d + 1
  | (_, d) => uptoBulk d + 1
 end
def uptoSmall : (H : Type) → List (DataW H) → Bool := fun _ ds => decide (uptoBulkAll ds ≤ 1048576)
def OpenSpec.upto (s : _root_.Go.ChangeSpec) : _root_.Go.OpenSpec := { _root_.Go.OpenSpec.ofChange s with cond := some uptoSmall }

/-- 'affidavitlaw11.BlobsKept', WHERE WHAT IT READS IS OF BULK AT MOST 1048576: true; the input reads as it did. -/
def blobsKeptUptoRow : OpenClaim := { program := "ytjhldllkjmlabaa", sum := "0b46c6fe62ea2dc01613a74fa00cc7aedeba5d171b76ceba0be22e6b3838c0c0", func := "affidavit/affidavitlaw11.BlobsKept", spec := "blobsKept", plainKeys := false, apart := false, narrowed := true }
def BlobsKeptUptoSaid : Prop := blobsKeptUptoRow.holds Try.pinned (OpenSpec.upto blobsKeptSpec)

/-- 'affidavitlaw11.BlobsDo', WHERE WHAT IT READS IS OF BULK AT MOST 1048576: true; the input reads as it did. -/
def blobsDoUptoRow : OpenClaim := { program := "ytjhldllkjmlabaa", sum := "0b46c6fe62ea2dc01613a74fa00cc7aedeba5d171b76ceba0be22e6b3838c0c0", func := "affidavit/affidavitlaw11.BlobsDo", spec := "blobsDo", recurses := true, plainKeys := false, apart := false, narrowed := true }
def BlobsDoUptoSaid : Prop := blobsDoUptoRow.holds Try.pinned (OpenSpec.upto blobsDoSpec)

/-- 'affidavitlaw11.BlobsApart', WHERE WHAT IT READS IS OF BULK AT MOST 1048576: true; the input reads as it did. -/
def blobsApartUptoRow : OpenClaim := { program := "ytjhldllkjmlabaa", sum := "0b46c6fe62ea2dc01613a74fa00cc7aedeba5d171b76ceba0be22e6b3838c0c0", func := "affidavit/affidavitlaw11.BlobsApart", spec := "blobsApart", recurses := true, plainKeys := false, apart := false, narrowed := true }
def BlobsApartUptoSaid : Prop := blobsApartUptoRow.holds Try.pinned (OpenSpec.upto blobsApartSpec)

/-- 'affidavitlaw11.BlobsWithin', WHERE WHAT IT READS IS OF BULK AT MOST 1048576: true; the input reads as it did. -/
def blobsWithinUptoRow : OpenClaim := { program := "ytjhldllkjmlabaa", sum := "0b46c6fe62ea2dc01613a74fa00cc7aedeba5d171b76ceba0be22e6b3838c0c0", func := "affidavit/affidavitlaw11.BlobsWithin", spec := "blobsWithin", recurses := true, plainKeys := false, apart := false, narrowed := true }
def BlobsWithinUptoSaid : Prop := blobsWithinUptoRow.holds Try.pinned (OpenSpec.upto blobsWithinSpec)

/-- 'affidavitlaw11.BlobsNone', WHERE WHAT IT READS IS OF BULK AT MOST 1048576: true; the input reads as it did. -/
def blobsNoneUptoRow : OpenClaim := { program := "ytjhldllkjmlabaa", sum := "0b46c6fe62ea2dc01613a74fa00cc7aedeba5d171b76ceba0be22e6b3838c0c0", func := "affidavit/affidavitlaw11.BlobsNone", spec := "blobsNone", recurses := true, plainKeys := false, apart := false, narrowed := true }
def BlobsNoneUptoSaid : Prop := blobsNoneUptoRow.holds Try.pinned (OpenSpec.upto blobsNoneSpec)

end Rows
end Go.Proofs.Ytjhldllkjmlabaa
