/-
  No cell of these rows narrows 'for every input' (looked for: loops, veiled, ifaces, maps, wideKeys, modest, calm, conditions, laid).
  DERIVED. THE GIVEN ROWS OF THIS SEAT. 5 by the template 'for every input the law returns true; each argument reads behind the call as it read before'; 0 by the template 'total and deterministic' (their statements: YtnoopjlfcdmdfaaTotals.lean).
  GIVEN WITH THE SEED: the statements are not yours to turn. If you find one false, say at which input.
  Laid BY PROGRAM, IN A SANDBOX (cutbox-rows.mjs): the forced cells as the released guide's own fill.sh prints them over the translation ad721a5c492ea479… (all of the seat's roots in one cut). By AI agents, Wed Nov 11 2026. No macro, syntax, notation, axiom, sorry.
-/
import Derived.Test.YtnoopjlfcdmdfaaChecked
import GoSem.Claim
import GoSem.ClaimJoined
import GoSem.ClaimMapViews
import Derived.JoinedTies
import Derived.KernelRfl
namespace Go.Proofs.Ytnoopjlfcdmdfaa
/- THE CELL 'sum', in the pinned program and in every row, IS THE sha256 OF THE DUMP (.gsa) THAT YtnoopjlfcdmdfaaProg.lean LOADS. Nothing in Lean hashes anything: it is a label: what it is worth is what the hold of that sum in a sandbox is worth. -/
noncomputable def Try.pinned : Pinned := { name := "ytnoopjlfcdmdfaa", sum := "ad721a5c492ea479b3fe32235722db19ff0864bb1a80122e9d9fd93244b3f288", checked := Try.checked }
namespace Rows
def none {H : Type} : Left H := { results := [], args := [] }

/-- 'affidavitlaw09.HistCounts': WHATEVER THE INPUT: true; the input reads as it did. -/
def histCountsSpec : ChangeSpec := { name := "histCounts", fn := fun _ => fun
  | [d] => { results := [.lit (.bool true)], args := [d] }
  | _ => none }
def histCountsRow : OpenClaim := { program := "ytnoopjlfcdmdfaa", sum := "ad721a5c492ea479b3fe32235722db19ff0864bb1a80122e9d9fd93244b3f288", func := "affidavit/affidavitlaw09.HistCounts", spec := "histCounts", unfollowed := true, recurses := true, apart := false }
def HistCountsSaid : Prop := histCountsRow.holds Try.pinned (OpenSpec.ofChange histCountsSpec)

/-- ITS FALSE NEIGHBOUR: 'it returns false'. Refute it at one input. -/
def histCountsWrong : ChangeSpec := { name := "histCounts", fn := fun _ => fun
  | [d] => { results := [.lit (.bool false)], args := [d] }
  | _ => none }
def HistCountsWrongFalsely : Prop := histCountsRow.holds Try.pinned (OpenSpec.ofChange histCountsWrong)

/-- 'affidavitlaw09.HistGrows': WHATEVER THE INPUT: true; the input reads as it did. -/
def histGrowsSpec : ChangeSpec := { name := "histGrows", fn := fun _ => fun
  | [d1, d2, d3] => { results := [.lit (.bool true)], args := [d1, d2, d3] }
  | _ => none }
def histGrowsRow : OpenClaim := { program := "ytnoopjlfcdmdfaa", sum := "ad721a5c492ea479b3fe32235722db19ff0864bb1a80122e9d9fd93244b3f288", func := "affidavit/affidavitlaw09.HistGrows", spec := "histGrows", unfollowed := true, recurses := true, apart := false }
def HistGrowsSaid : Prop := histGrowsRow.holds Try.pinned (OpenSpec.ofChange histGrowsSpec)

/-- ITS FALSE NEIGHBOUR: 'it returns false'. Refute it at one input. -/
def histGrowsWrong : ChangeSpec := { name := "histGrows", fn := fun _ => fun
  | [d1, d2, d3] => { results := [.lit (.bool false)], args := [d1, d2, d3] }
  | _ => none }
def HistGrowsWrongFalsely : Prop := histGrowsRow.holds Try.pinned (OpenSpec.ofChange histGrowsWrong)

/-- 'affidavitlaw09.HistForks': WHATEVER THE INPUT: true; the input reads as it did. -/
def histForksSpec : ChangeSpec := { name := "histForks", fn := fun _ => fun
  | [d] => { results := [.lit (.bool true)], args := [d] }
  | _ => none }
def histForksRow : OpenClaim := { program := "ytnoopjlfcdmdfaa", sum := "ad721a5c492ea479b3fe32235722db19ff0864bb1a80122e9d9fd93244b3f288", func := "affidavit/affidavitlaw09.HistForks", spec := "histForks", unfollowed := true, recurses := true, apart := false }
def HistForksSaid : Prop := histForksRow.holds Try.pinned (OpenSpec.ofChange histForksSpec)

/-- ITS FALSE NEIGHBOUR: 'it returns false'. Refute it at one input. -/
def histForksWrong : ChangeSpec := { name := "histForks", fn := fun _ => fun
  | [d] => { results := [.lit (.bool false)], args := [d] }
  | _ => none }
def HistForksWrongFalsely : Prop := histForksRow.holds Try.pinned (OpenSpec.ofChange histForksWrong)

/-- 'affidavitlaw09.HistFits': WHATEVER THE INPUT: true; the input reads as it did. -/
def histFitsSpec : ChangeSpec := { name := "histFits", fn := fun _ => fun
  | [d1, d2] => { results := [.lit (.bool true)], args := [d1, d2] }
  | _ => none }
def histFitsRow : OpenClaim := { program := "ytnoopjlfcdmdfaa", sum := "ad721a5c492ea479b3fe32235722db19ff0864bb1a80122e9d9fd93244b3f288", func := "affidavit/affidavitlaw09.HistFits", spec := "histFits", unfollowed := true, recurses := true, apart := false }
def HistFitsSaid : Prop := histFitsRow.holds Try.pinned (OpenSpec.ofChange histFitsSpec)

/-- ITS FALSE NEIGHBOUR: 'it returns false'. Refute it at one input. -/
def histFitsWrong : ChangeSpec := { name := "histFits", fn := fun _ => fun
  | [d1, d2] => { results := [.lit (.bool false)], args := [d1, d2] }
  | _ => none }
def HistFitsWrongFalsely : Prop := histFitsRow.holds Try.pinned (OpenSpec.ofChange histFitsWrong)

/-- 'affidavitlaw09.HistOrders': WHATEVER THE INPUT: true; the input reads as it did. -/
def histOrdersSpec : ChangeSpec := { name := "histOrders", fn := fun _ => fun
  | [d1, d2, d3] => { results := [.lit (.bool true)], args := [d1, d2, d3] }
  | _ => none }
def histOrdersRow : OpenClaim := { program := "ytnoopjlfcdmdfaa", sum := "ad721a5c492ea479b3fe32235722db19ff0864bb1a80122e9d9fd93244b3f288", func := "affidavit/affidavitlaw09.HistOrders", spec := "histOrders", unfollowed := true, recurses := true, apart := false }
def HistOrdersSaid : Prop := histOrdersRow.holds Try.pinned (OpenSpec.ofChange histOrdersSpec)

/-- ITS FALSE NEIGHBOUR: 'it returns false'. Refute it at one input. -/
def histOrdersWrong : ChangeSpec := { name := "histOrders", fn := fun _ => fun
  | [d1, d2, d3] => { results := [.lit (.bool false)], args := [d1, d2, d3] }
  | _ => none }
def HistOrdersWrongFalsely : Prop := histOrdersRow.holds Try.pinned (OpenSpec.ofChange histOrdersWrong)

/- THE SECOND FORM. 'bulk': how many values and letters a reading holds, each counted each time it is reached (what is shared counts as often as it is met; a slice's spare places count too). A statement '..UptoSaid' is the law's where the arguments, and the package variables that the reading takes, are together of bulk at most 1048576: NARROWER than '..Said'. Prove '..Said' where nothing that the law and all that it calls make is longer than what came in: it says more and counts as full. Else prove '..UptoSaid'. A law counts once. -/
mutual
def uptoBulk {H : Type} : DataW H → Nat
  | .lit (.string bytes) => bytes.length + 1
  | .lit _ => 1
  | .nil => 1
  | .ptr d => uptoBulk d + 1
  | .slice elems spare => uptoBulkAll elems + uptoBulkAll spare + 1
  | .agg parts => uptoBulkAll parts + 1
  | .iface _ d => uptoBulk d + 1
  | .map entries => uptoBulkEntries entries + 1
  | .held _ => 1
def uptoBulkAll {H : Type} : List (DataW H) → Nat
  | [] => 0
  | d :: r => uptoBulk d + uptoBulkAll r
def uptoBulkEntries {H : Type} : List (Lit × DataW H) → Nat
  | [] => 0
  | x :: r => uptoBulkEntry x + uptoBulkEntries r
def uptoBulkEntry {H : Type} : Lit × DataW H → Nat
  | (.string bytes, d) => bytes.length + uptoBulk d + 1
  | (_, d) => uptoBulk d + 1
 end
def uptoSmall : (H : Type) → List (DataW H) → Bool := fun _ ds => decide (uptoBulkAll ds ≤ 1048576)
def OpenSpec.upto (s : _root_.Go.ChangeSpec) : _root_.Go.OpenSpec := { _root_.Go.OpenSpec.ofChange s with cond := some uptoSmall }

/-- 'affidavitlaw09.HistCounts', WHERE WHAT IT READS IS OF BULK AT MOST 1048576: true; the input reads as it did. -/
def histCountsUptoRow : OpenClaim := { program := "ytnoopjlfcdmdfaa", sum := "ad721a5c492ea479b3fe32235722db19ff0864bb1a80122e9d9fd93244b3f288", func := "affidavit/affidavitlaw09.HistCounts", spec := "histCounts", unfollowed := true, recurses := true, apart := false, narrowed := true }
def HistCountsUptoSaid : Prop := histCountsUptoRow.holds Try.pinned (OpenSpec.upto histCountsSpec)

/-- 'affidavitlaw09.HistGrows', WHERE WHAT IT READS IS OF BULK AT MOST 1048576: true; the input reads as it did. -/
def histGrowsUptoRow : OpenClaim := { program := "ytnoopjlfcdmdfaa", sum := "ad721a5c492ea479b3fe32235722db19ff0864bb1a80122e9d9fd93244b3f288", func := "affidavit/affidavitlaw09.HistGrows", spec := "histGrows", unfollowed := true, recurses := true, apart := false, narrowed := true }
def HistGrowsUptoSaid : Prop := histGrowsUptoRow.holds Try.pinned (OpenSpec.upto histGrowsSpec)

/-- 'affidavitlaw09.HistForks', WHERE WHAT IT READS IS OF BULK AT MOST 1048576: true; the input reads as it did. -/
def histForksUptoRow : OpenClaim := { program := "ytnoopjlfcdmdfaa", sum := "ad721a5c492ea479b3fe32235722db19ff0864bb1a80122e9d9fd93244b3f288", func := "affidavit/affidavitlaw09.HistForks", spec := "histForks", unfollowed := true, recurses := true, apart := false, narrowed := true }
def HistForksUptoSaid : Prop := histForksUptoRow.holds Try.pinned (OpenSpec.upto histForksSpec)

/-- 'affidavitlaw09.HistFits', WHERE WHAT IT READS IS OF BULK AT MOST 1048576: true; the input reads as it did. -/
def histFitsUptoRow : OpenClaim := { program := "ytnoopjlfcdmdfaa", sum := "ad721a5c492ea479b3fe32235722db19ff0864bb1a80122e9d9fd93244b3f288", func := "affidavit/affidavitlaw09.HistFits", spec := "histFits", unfollowed := true, recurses := true, apart := false, narrowed := true }
def HistFitsUptoSaid : Prop := histFitsUptoRow.holds Try.pinned (OpenSpec.upto histFitsSpec)

/-- 'affidavitlaw09.HistOrders', WHERE WHAT IT READS IS OF BULK AT MOST 1048576: true; the input reads as it did. -/
def histOrdersUptoRow : OpenClaim := { program := "ytnoopjlfcdmdfaa", sum := "ad721a5c492ea479b3fe32235722db19ff0864bb1a80122e9d9fd93244b3f288", func := "affidavit/affidavitlaw09.HistOrders", spec := "histOrders", unfollowed := true, recurses := true, apart := false, narrowed := true }
def HistOrdersUptoSaid : Prop := histOrdersUptoRow.holds Try.pinned (OpenSpec.upto histOrdersSpec)

end Rows
end Go.Proofs.Ytnoopjlfcdmdfaa
