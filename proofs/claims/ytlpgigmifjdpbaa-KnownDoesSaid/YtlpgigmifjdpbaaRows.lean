/-
  No cell of these rows narrows 'for every input' (looked for: loops, veiled, ifaces, maps, wideKeys, modest, calm, conditions, laid).
  DERIVED. THE GIVEN ROWS OF THIS SEAT. 6 by the template 'for every input the law returns true; each argument reads behind the call as it read before'; 0 by the template 'total and deterministic' (their statements: YtlpgigmifjdpbaaTotals.lean).
  GIVEN WITH THE SEED: the statements are not yours to turn. If you find one false, say at which input.
  Laid BY PROGRAM, IN A SANDBOX (cutbox-rows.mjs): the forced cells as the released guide's own fill.sh prints them over the translation 2b1a209d755c9097… (all of the seat's roots in one cut). By AI agents, Wed Nov 11 2026. No macro, syntax, notation, axiom, sorry.
-/
import Derived.Test.YtlpgigmifjdpbaaChecked
import GoSem.Claim
import GoSem.ClaimJoined
import GoSem.ClaimMapViews
import Derived.JoinedTies
import Derived.KernelRfl
namespace Go.Proofs.Ytlpgigmifjdpbaa
/- THE CELL 'sum', in the pinned program and in every row, IS THE sha256 OF THE DUMP (.gsa) THAT YtlpgigmifjdpbaaProg.lean LOADS. Nothing in Lean hashes anything: it is a label: what it is worth is what the hold of that sum in a sandbox is worth. -/
noncomputable def Try.pinned : Pinned := { name := "ytlpgigmifjdpbaa", sum := "2b1a209d755c9097a1cd6bce7491de675ff05f1ddf3e33898ac79b9cb3213647", checked := Try.checked }
namespace Rows
def none {H : Type} : Left H := { results := [], args := [] }

/-- 'affidavitlaw16.KnownGrows': WHATEVER THE INPUT: true; the input reads as it did. -/
def knownGrowsSpec : ChangeSpec := { name := "knownGrows", fn := fun _ => fun
  | [d1, d2, d3] => { results := [.lit (.bool true)], args := [d1, d2, d3] }
  | _ => none }
def knownGrowsRow : OpenClaim := { program := "ytlpgigmifjdpbaa", sum := "2b1a209d755c9097a1cd6bce7491de675ff05f1ddf3e33898ac79b9cb3213647", func := "affidavit/affidavitlaw16.KnownGrows", spec := "knownGrows", unfollowed := true, recurses := true, apart := false }
def KnownGrowsSaid : Prop := knownGrowsRow.holds Try.pinned (OpenSpec.ofChange knownGrowsSpec)

/-- ITS FALSE NEIGHBOUR: 'it returns false'. Refute it at one input. -/
def knownGrowsWrong : ChangeSpec := { name := "knownGrows", fn := fun _ => fun
  | [d1, d2, d3] => { results := [.lit (.bool false)], args := [d1, d2, d3] }
  | _ => none }
def KnownGrowsWrongFalsely : Prop := knownGrowsRow.holds Try.pinned (OpenSpec.ofChange knownGrowsWrong)

/-- 'affidavitlaw16.KnownForks': WHATEVER THE INPUT: true; the input reads as it did. -/
def knownForksSpec : ChangeSpec := { name := "knownForks", fn := fun _ => fun
  | [d1, d2, d3] => { results := [.lit (.bool true)], args := [d1, d2, d3] }
  | _ => none }
def knownForksRow : OpenClaim := { program := "ytlpgigmifjdpbaa", sum := "2b1a209d755c9097a1cd6bce7491de675ff05f1ddf3e33898ac79b9cb3213647", func := "affidavit/affidavitlaw16.KnownForks", spec := "knownForks", unfollowed := true, recurses := true, apart := false }
def KnownForksSaid : Prop := knownForksRow.holds Try.pinned (OpenSpec.ofChange knownForksSpec)

/-- ITS FALSE NEIGHBOUR: 'it returns false'. Refute it at one input. -/
def knownForksWrong : ChangeSpec := { name := "knownForks", fn := fun _ => fun
  | [d1, d2, d3] => { results := [.lit (.bool false)], args := [d1, d2, d3] }
  | _ => none }
def KnownForksWrongFalsely : Prop := knownForksRow.holds Try.pinned (OpenSpec.ofChange knownForksWrong)

/-- 'affidavitlaw16.KnownDoes': WHATEVER THE INPUT: true; the input reads as it did. -/
def knownDoesSpec : ChangeSpec := { name := "knownDoes", fn := fun _ => fun
  | [d] => { results := [.lit (.bool true)], args := [d] }
  | _ => none }
def knownDoesRow : OpenClaim := { program := "ytlpgigmifjdpbaa", sum := "2b1a209d755c9097a1cd6bce7491de675ff05f1ddf3e33898ac79b9cb3213647", func := "affidavit/affidavitlaw16.KnownDoes", spec := "knownDoes", unfollowed := true, recurses := true, apart := false }
def KnownDoesSaid : Prop := knownDoesRow.holds Try.pinned (OpenSpec.ofChange knownDoesSpec)

/-- ITS FALSE NEIGHBOUR: 'it returns false'. Refute it at one input. -/
def knownDoesWrong : ChangeSpec := { name := "knownDoes", fn := fun _ => fun
  | [d] => { results := [.lit (.bool false)], args := [d] }
  | _ => none }
def KnownDoesWrongFalsely : Prop := knownDoesRow.holds Try.pinned (OpenSpec.ofChange knownDoesWrong)

/-- 'affidavitlaw16.KnownLines': WHATEVER THE INPUT: true; the input reads as it did. -/
def knownLinesSpec : ChangeSpec := { name := "knownLines", fn := fun _ => fun
  | [d1, d2, d3] => { results := [.lit (.bool true)], args := [d1, d2, d3] }
  | _ => none }
def knownLinesRow : OpenClaim := { program := "ytlpgigmifjdpbaa", sum := "2b1a209d755c9097a1cd6bce7491de675ff05f1ddf3e33898ac79b9cb3213647", func := "affidavit/affidavitlaw16.KnownLines", spec := "knownLines", unfollowed := true, recurses := true, apart := false }
def KnownLinesSaid : Prop := knownLinesRow.holds Try.pinned (OpenSpec.ofChange knownLinesSpec)

/-- ITS FALSE NEIGHBOUR: 'it returns false'. Refute it at one input. -/
def knownLinesWrong : ChangeSpec := { name := "knownLines", fn := fun _ => fun
  | [d1, d2, d3] => { results := [.lit (.bool false)], args := [d1, d2, d3] }
  | _ => none }
def KnownLinesWrongFalsely : Prop := knownLinesRow.holds Try.pinned (OpenSpec.ofChange knownLinesWrong)

/-- 'affidavitlaw16.KnownOrder': WHATEVER THE INPUT: true; the input reads as it did. -/
def knownOrderSpec : ChangeSpec := { name := "knownOrder", fn := fun _ => fun
  | [d] => { results := [.lit (.bool true)], args := [d] }
  | _ => none }
def knownOrderRow : OpenClaim := { program := "ytlpgigmifjdpbaa", sum := "2b1a209d755c9097a1cd6bce7491de675ff05f1ddf3e33898ac79b9cb3213647", func := "affidavit/affidavitlaw16.KnownOrder", spec := "knownOrder", unfollowed := true, recurses := true, apart := false }
def KnownOrderSaid : Prop := knownOrderRow.holds Try.pinned (OpenSpec.ofChange knownOrderSpec)

/-- ITS FALSE NEIGHBOUR: 'it returns false'. Refute it at one input. -/
def knownOrderWrong : ChangeSpec := { name := "knownOrder", fn := fun _ => fun
  | [d] => { results := [.lit (.bool false)], args := [d] }
  | _ => none }
def KnownOrderWrongFalsely : Prop := knownOrderRow.holds Try.pinned (OpenSpec.ofChange knownOrderWrong)

/-- 'affidavitlaw16.KnownNone': WHATEVER THE INPUT: true; the input reads as it did. -/
def knownNoneSpec : ChangeSpec := { name := "knownNone", fn := fun _ => fun
  | [d] => { results := [.lit (.bool true)], args := [d] }
  | _ => none }
def knownNoneRow : OpenClaim := { program := "ytlpgigmifjdpbaa", sum := "2b1a209d755c9097a1cd6bce7491de675ff05f1ddf3e33898ac79b9cb3213647", func := "affidavit/affidavitlaw16.KnownNone", spec := "knownNone", unfollowed := true, recurses := true, apart := false }
def KnownNoneSaid : Prop := knownNoneRow.holds Try.pinned (OpenSpec.ofChange knownNoneSpec)

/-- ITS FALSE NEIGHBOUR: 'it returns false'. Refute it at one input. -/
def knownNoneWrong : ChangeSpec := { name := "knownNone", fn := fun _ => fun
  | [d] => { results := [.lit (.bool false)], args := [d] }
  | _ => none }
def KnownNoneWrongFalsely : Prop := knownNoneRow.holds Try.pinned (OpenSpec.ofChange knownNoneWrong)

/- THE SECOND FORM. 'bulk': how many values and letters a reading holds, each counted each time it is reached (what is shared counts as often as it is met; a slice's spare places count too). A statement '..UptoSaid' is the law's where the arguments, and the package variables that the reading takes, are together of bulk at most 1048576: NARROWER than '..Said'. Prove '..Said' where nothing that the law and all that it calls make is longer than what came in: it says more and counts as full. Else prove '..UptoSaid'. A law counts once. -/
mutual
def uptoBulk {H : Type} : DataW H → Nat
  | .lit (.string bytes) => bytes.length + 1
  | .lit _ => 1
  | .nil => 1
  | .ptr d => uptoBulk d + 1
  | .slice elems spare => uptoBulkAll elems + uptoBulkAll spare + 1
  | .agg parts => uptoBulkAll parts + 1
  | .iface _ d => uptoBulk d + 1
  | .map entries => uptoBulkEntries entries + 1
  | .held _ => 1
def uptoBulkAll {H : Type} : List (DataW H) → Nat
  | [] => 0
  | d :: r => uptoBulk d + uptoBulkAll r
def uptoBulkEntries {H : Type} : List (Lit × DataW H) → Nat
  | [] => 0
  | x :: r => uptoBulkEntry x + uptoBulkEntries r
def uptoBulkEntry {H : Type} : Lit × DataW H → Nat
  | (.string bytes, d) => bytes.length + uptoBulk d + 1
  | (_, d) => uptoBulk d + 1
 end
def uptoSmall : (H : Type) → List (DataW H) → Bool := fun _ ds => decide (uptoBulkAll ds ≤ 1048576)
def OpenSpec.upto (s : _root_.Go.ChangeSpec) : _root_.Go.OpenSpec := { _root_.Go.OpenSpec.ofChange s with cond := some uptoSmall }

/-- 'affidavitlaw16.KnownGrows', WHERE WHAT IT READS IS OF BULK AT MOST 1048576: true; the input reads as it did. -/
def knownGrowsUptoRow : OpenClaim := { program := "ytlpgigmifjdpbaa", sum := "2b1a209d755c9097a1cd6bce7491de675ff05f1ddf3e33898ac79b9cb3213647", func := "affidavit/affidavitlaw16.KnownGrows", spec := "knownGrows", unfollowed := true, recurses := true, apart := false, narrowed := true }
def KnownGrowsUptoSaid : Prop := knownGrowsUptoRow.holds Try.pinned (OpenSpec.upto knownGrowsSpec)

/-- 'affidavitlaw16.KnownForks', WHERE WHAT IT READS IS OF BULK AT MOST 1048576: true; the input reads as it did. -/
def knownForksUptoRow : OpenClaim := { program := "ytlpgigmifjdpbaa", sum := "2b1a209d755c9097a1cd6bce7491de675ff05f1ddf3e33898ac79b9cb3213647", func := "affidavit/affidavitlaw16.KnownForks", spec := "knownForks", unfollowed := true, recurses := true, apart := false, narrowed := true }
def KnownForksUptoSaid : Prop := knownForksUptoRow.holds Try.pinned (OpenSpec.upto knownForksSpec)

/-- 'affidavitlaw16.KnownDoes', WHERE WHAT IT READS IS OF BULK AT MOST 1048576: true; the input reads as it did. -/
def knownDoesUptoRow : OpenClaim := { program := "ytlpgigmifjdpbaa", sum := "2b1a209d755c9097a1cd6bce7491de675ff05f1ddf3e33898ac79b9cb3213647", func := "affidavit/affidavitlaw16.KnownDoes", spec := "knownDoes", unfollowed := true, recurses := true, apart := false, narrowed := true }
def KnownDoesUptoSaid : Prop := knownDoesUptoRow.holds Try.pinned (OpenSpec.upto knownDoesSpec)

/-- 'affidavitlaw16.KnownLines', WHERE WHAT IT READS IS OF BULK AT MOST 1048576: true; the input reads as it did. -/
def knownLinesUptoRow : OpenClaim := { program := "ytlpgigmifjdpbaa", sum := "2b1a209d755c9097a1cd6bce7491de675ff05f1ddf3e33898ac79b9cb3213647", func := "affidavit/affidavitlaw16.KnownLines", spec := "knownLines", unfollowed := true, recurses := true, apart := false, narrowed := true }
def KnownLinesUptoSaid : Prop := knownLinesUptoRow.holds Try.pinned (OpenSpec.upto knownLinesSpec)

/-- 'affidavitlaw16.KnownOrder', WHERE WHAT IT READS IS OF BULK AT MOST 1048576: true; the input reads as it did. -/
def knownOrderUptoRow : OpenClaim := { program := "ytlpgigmifjdpbaa", sum := "2b1a209d755c9097a1cd6bce7491de675ff05f1ddf3e33898ac79b9cb3213647", func := "affidavit/affidavitlaw16.KnownOrder", spec := "knownOrder", unfollowed := true, recurses := true, apart := false, narrowed := true }
def KnownOrderUptoSaid : Prop := knownOrderUptoRow.holds Try.pinned (OpenSpec.upto knownOrderSpec)

/-- 'affidavitlaw16.KnownNone', WHERE WHAT IT READS IS OF BULK AT MOST 1048576: true; the input reads as it did. -/
def knownNoneUptoRow : OpenClaim := { program := "ytlpgigmifjdpbaa", sum := "2b1a209d755c9097a1cd6bce7491de675ff05f1ddf3e33898ac79b9cb3213647", func := "affidavit/affidavitlaw16.KnownNone", spec := "knownNone", unfollowed := true, recurses := true, apart := false, narrowed := true }
def KnownNoneUptoSaid : Prop := knownNoneUptoRow.holds Try.pinned (OpenSpec.upto knownNoneSpec)

end Rows
end Go.Proofs.Ytlpgigmifjdpbaa
