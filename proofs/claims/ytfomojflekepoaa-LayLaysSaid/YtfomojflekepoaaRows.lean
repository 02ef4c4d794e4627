/-
  No cell of these rows narrows 'for every input' (looked for: loops, veiled, ifaces, maps, wideKeys, modest, calm, conditions, laid).
  DERIVED. THE GIVEN ROWS OF THIS SEAT. 6 by the template 'for every input the law returns true; each argument reads behind the call as it read before'; 0 by the template 'total and deterministic' (their statements: YtfomojflekepoaaTotals.lean).
  GIVEN WITH THE SEED: the statements are not yours to turn. If you find one false, say at which input.
  Laid BY PROGRAM, IN A SANDBOX (cutbox-rows.mjs): the forced cells as the released guide's own fill.sh prints them over the translation f9f19ae8b6ad1b2f… (all of the seat's roots in one cut). By AI agents, Wed Nov 11 2026. No macro, syntax, notation, axiom, sorry.
-/
import Derived.Test.YtfomojflekepoaaChecked
import GoSem.Claim
import GoSem.ClaimJoined
import GoSem.ClaimMapViews
import Derived.JoinedTies
import Derived.KernelRfl
namespace Go.Proofs.Ytfomojflekepoaa
/- THE CELL 'sum', in the pinned program and in every row, IS THE sha256 OF THE DUMP (.gsa) THAT YtfomojflekepoaaProg.lean LOADS. Nothing in Lean hashes anything: it is a label: what it is worth is what the hold of that sum in a sandbox is worth. -/
noncomputable def Try.pinned : Pinned := { name := "ytfomojflekepoaa", sum := "f9f19ae8b6ad1b2f7ae0834af2f5978a987cd8e2cabdf59ed6761d9cd0ad2e6c", checked := Try.checked }
namespace Rows
def none {H : Type} : Left H := { results := [], args := [] }

/-- 'affidavitlaw01.LayNumbers': WHATEVER THE INPUT: true; the input reads as it did. -/
def layNumbersSpec : ChangeSpec := { name := "layNumbers", fn := fun _ => fun
  | [d] => { results := [.lit (.bool true)], args := [d] }
  | _ => none }
def layNumbersRow : OpenClaim := { program := "ytfomojflekepoaa", sum := "f9f19ae8b6ad1b2f7ae0834af2f5978a987cd8e2cabdf59ed6761d9cd0ad2e6c", func := "affidavit/affidavitlaw01.LayNumbers", spec := "layNumbers", unfollowed := true, recurses := true, apart := false }
def LayNumbersSaid : Prop := layNumbersRow.holds Try.pinned (OpenSpec.ofChange layNumbersSpec)

/-- ITS FALSE NEIGHBOUR: 'it returns false'. Refute it at one input. -/
def layNumbersWrong : ChangeSpec := { name := "layNumbers", fn := fun _ => fun
  | [d] => { results := [.lit (.bool false)], args := [d] }
  | _ => none }
def LayNumbersWrongFalsely : Prop := layNumbersRow.holds Try.pinned (OpenSpec.ofChange layNumbersWrong)

/-- 'affidavitlaw01.LayLays': WHATEVER THE INPUT: true; the input reads as it did. -/
def layLaysSpec : ChangeSpec := { name := "layLays", fn := fun _ => fun
  | [d1, d2, d3] => { results := [.lit (.bool true)], args := [d1, d2, d3] }
  | _ => none }
def layLaysRow : OpenClaim := { program := "ytfomojflekepoaa", sum := "f9f19ae8b6ad1b2f7ae0834af2f5978a987cd8e2cabdf59ed6761d9cd0ad2e6c", func := "affidavit/affidavitlaw01.LayLays", spec := "layLays", unfollowed := true, recurses := true, apart := false }
def LayLaysSaid : Prop := layLaysRow.holds Try.pinned (OpenSpec.ofChange layLaysSpec)

/-- ITS FALSE NEIGHBOUR: 'it returns false'. Refute it at one input. -/
def layLaysWrong : ChangeSpec := { name := "layLays", fn := fun _ => fun
  | [d1, d2, d3] => { results := [.lit (.bool false)], args := [d1, d2, d3] }
  | _ => none }
def LayLaysWrongFalsely : Prop := layLaysRow.holds Try.pinned (OpenSpec.ofChange layLaysWrong)

/-- 'affidavitlaw01.LayApart': WHATEVER THE INPUT: true; the input reads as it did. -/
def layApartSpec : ChangeSpec := { name := "layApart", fn := fun _ => fun
  | [d] => { results := [.lit (.bool true)], args := [d] }
  | _ => none }
def layApartRow : OpenClaim := { program := "ytfomojflekepoaa", sum := "f9f19ae8b6ad1b2f7ae0834af2f5978a987cd8e2cabdf59ed6761d9cd0ad2e6c", func := "affidavit/affidavitlaw01.LayApart", spec := "layApart", unfollowed := true, recurses := true, apart := false }
def LayApartSaid : Prop := layApartRow.holds Try.pinned (OpenSpec.ofChange layApartSpec)

/-- ITS FALSE NEIGHBOUR: 'it returns false'. Refute it at one input. -/
def layApartWrong : ChangeSpec := { name := "layApart", fn := fun _ => fun
  | [d] => { results := [.lit (.bool false)], args := [d] }
  | _ => none }
def LayApartWrongFalsely : Prop := layApartRow.holds Try.pinned (OpenSpec.ofChange layApartWrong)

/-- 'affidavitlaw01.LayReads': WHATEVER THE INPUT: true; the input reads as it did. -/
def layReadsSpec : ChangeSpec := { name := "layReads", fn := fun _ => fun
  | [d1, d2] => { results := [.lit (.bool true)], args := [d1, d2] }
  | _ => none }
def layReadsRow : OpenClaim := { program := "ytfomojflekepoaa", sum := "f9f19ae8b6ad1b2f7ae0834af2f5978a987cd8e2cabdf59ed6761d9cd0ad2e6c", func := "affidavit/affidavitlaw01.LayReads", spec := "layReads", unfollowed := true, recurses := true, apart := false }
def LayReadsSaid : Prop := layReadsRow.holds Try.pinned (OpenSpec.ofChange layReadsSpec)

/-- ITS FALSE NEIGHBOUR: 'it returns false'. Refute it at one input. -/
def layReadsWrong : ChangeSpec := { name := "layReads", fn := fun _ => fun
  | [d1, d2] => { results := [.lit (.bool false)], args := [d1, d2] }
  | _ => none }
def LayReadsWrongFalsely : Prop := layReadsRow.holds Try.pinned (OpenSpec.ofChange layReadsWrong)

/-- 'affidavitlaw01.LayBack': WHATEVER THE INPUT: true; the input reads as it did. -/
def layBackSpec : ChangeSpec := { name := "layBack", fn := fun _ => fun
  | [d] => { results := [.lit (.bool true)], args := [d] }
  | _ => none }
def layBackRow : OpenClaim := { program := "ytfomojflekepoaa", sum := "f9f19ae8b6ad1b2f7ae0834af2f5978a987cd8e2cabdf59ed6761d9cd0ad2e6c", func := "affidavit/affidavitlaw01.LayBack", spec := "layBack", unfollowed := true, recurses := true, apart := false }
def LayBackSaid : Prop := layBackRow.holds Try.pinned (OpenSpec.ofChange layBackSpec)

/-- ITS FALSE NEIGHBOUR: 'it returns false'. Refute it at one input. -/
def layBackWrong : ChangeSpec := { name := "layBack", fn := fun _ => fun
  | [d] => { results := [.lit (.bool false)], args := [d] }
  | _ => none }
def LayBackWrongFalsely : Prop := layBackRow.holds Try.pinned (OpenSpec.ofChange layBackWrong)

/-- 'affidavitlaw01.LayOnce': WHATEVER THE INPUT: true; the input reads as it did. -/
def layOnceSpec : ChangeSpec := { name := "layOnce", fn := fun _ => fun
  | [d1, d2] => { results := [.lit (.bool true)], args := [d1, d2] }
  | _ => none }
def layOnceRow : OpenClaim := { program := "ytfomojflekepoaa", sum := "f9f19ae8b6ad1b2f7ae0834af2f5978a987cd8e2cabdf59ed6761d9cd0ad2e6c", func := "affidavit/affidavitlaw01.LayOnce", spec := "layOnce", unfollowed := true, recurses := true, apart := false }
def LayOnceSaid : Prop := layOnceRow.holds Try.pinned (OpenSpec.ofChange layOnceSpec)

/-- ITS FALSE NEIGHBOUR: 'it returns false'. Refute it at one input. -/
def layOnceWrong : ChangeSpec := { name := "layOnce", fn := fun _ => fun
  | [d1, d2] => { results := [.lit (.bool false)], args := [d1, d2] }
  | _ => none }
def LayOnceWrongFalsely : Prop := layOnceRow.holds Try.pinned (OpenSpec.ofChange layOnceWrong)

/- THE SECOND FORM. 'bulk': how many values and letters a reading holds, each counted each time it is reached (what is shared counts as often as it is met; a slice's spare places count too). A statement '..UptoSaid' is the law's where the arguments, and the package variables that the reading takes, are together of bulk at most 1048576: NARROWER than '..Said'. Prove '..Said' where nothing that the law and all that it calls make is longer than what came in: it says more and counts as full. Else prove '..UptoSaid'. A law counts once. -/
mutual
def uptoBulk {H : Type} : DataW H → Nat
  | .lit (.string bytes) => bytes.length + 1
  | .lit _ => 1
  | .nil => 1
  | .ptr d => uptoBulk d + 1
  | .slice elems spare => uptoBulkAll elems + uptoBulkAll spare + 1
  | .agg parts => uptoBulkAll parts + 1
  | .iface _ d => uptoBulk d + 1
  | .map entries => uptoBulkEntries entries + 1
  | .held _ => 1
def uptoBulkAll {H : Type} : List (DataW H) → Nat
  | [] => 0
  | d :: r => uptoBulk d + uptoBulkAll r
def uptoBulkEntries {H : Type} : List (Lit × DataW H) → Nat
  | [] => 0
  | x :: r => uptoBulkEntry x + uptoBulkEntries r
def uptoBulkEntry {H : Type} : Lit × DataW H → Nat
  | (.string bytes, d) => bytes.length + uptoBulk d + 1
  | (_, d) => uptoBulk d + 1
 end
def uptoSmall : (H : Type) → List (DataW H) → Bool := fun _ ds => decide (uptoBulkAll ds ≤ 1048576)
def OpenSpec.upto (s : _root_.Go.ChangeSpec) : _root_.Go.OpenSpec := { _root_.Go.OpenSpec.ofChange s with cond := some uptoSmall }

/-- 'affidavitlaw01.LayNumbers', WHERE WHAT IT READS IS OF BULK AT MOST 1048576: true; the input reads as it did. -/
def layNumbersUptoRow : OpenClaim := { program := "ytfomojflekepoaa", sum := "f9f19ae8b6ad1b2f7ae0834af2f5978a987cd8e2cabdf59ed6761d9cd0ad2e6c", func := "affidavit/affidavitlaw01.LayNumbers", spec := "layNumbers", unfollowed := true, recurses := true, apart := false, narrowed := true }
def LayNumbersUptoSaid : Prop := layNumbersUptoRow.holds Try.pinned (OpenSpec.upto layNumbersSpec)

/-- 'affidavitlaw01.LayLays', WHERE WHAT IT READS IS OF BULK AT MOST 1048576: true; the input reads as it did. -/
def layLaysUptoRow : OpenClaim := { program := "ytfomojflekepoaa", sum := "f9f19ae8b6ad1b2f7ae0834af2f5978a987cd8e2cabdf59ed6761d9cd0ad2e6c", func := "affidavit/affidavitlaw01.LayLays", spec := "layLays", unfollowed := true, recurses := true, apart := false, narrowed := true }
def LayLaysUptoSaid : Prop := layLaysUptoRow.holds Try.pinned (OpenSpec.upto layLaysSpec)

/-- 'affidavitlaw01.LayApart', WHERE WHAT IT READS IS OF BULK AT MOST 1048576: true; the input reads as it did. -/
def layApartUptoRow : OpenClaim := { program := "ytfomojflekepoaa", sum := "f9f19ae8b6ad1b2f7ae0834af2f5978a987cd8e2cabdf59ed6761d9cd0ad2e6c", func := "affidavit/affidavitlaw01.LayApart", spec := "layApart", unfollowed := true, recurses := true, apart := false, narrowed := true }
def LayApartUptoSaid : Prop := layApartUptoRow.holds Try.pinned (OpenSpec.upto layApartSpec)

/-- 'affidavitlaw01.LayReads', WHERE WHAT IT READS IS OF BULK AT MOST 1048576: true; the input reads as it did. -/
def layReadsUptoRow : OpenClaim := { program := "ytfomojflekepoaa", sum := "f9f19ae8b6ad1b2f7ae0834af2f5978a987cd8e2cabdf59ed6761d9cd0ad2e6c", func := "affidavit/affidavitlaw01.LayReads", spec := "layReads", unfollowed := true, recurses := true, apart := false, narrowed := true }
def LayReadsUptoSaid : Prop := layReadsUptoRow.holds Try.pinned (OpenSpec.upto layReadsSpec)

/-- 'affidavitlaw01.LayBack', WHERE WHAT IT READS IS OF BULK AT MOST 1048576: true; the input reads as it did. -/
def layBackUptoRow : OpenClaim := { program := "ytfomojflekepoaa", sum := "f9f19ae8b6ad1b2f7ae0834af2f5978a987cd8e2cabdf59ed6761d9cd0ad2e6c", func := "affidavit/affidavitlaw01.LayBack", spec := "layBack", unfollowed := true, recurses := true, apart := false, narrowed := true }
def LayBackUptoSaid : Prop := layBackUptoRow.holds Try.pinned (OpenSpec.upto layBackSpec)

/-- 'affidavitlaw01.LayOnce', WHERE WHAT IT READS IS OF BULK AT MOST 1048576: true; the input reads as it did. -/
def layOnceUptoRow : OpenClaim := { program := "ytfomojflekepoaa", sum := "f9f19ae8b6ad1b2f7ae0834af2f5978a987cd8e2cabdf59ed6761d9cd0ad2e6c", func := "affidavit/affidavitlaw01.LayOnce", spec := "layOnce", unfollowed := true, recurses := true, apart := false, narrowed := true }
def LayOnceUptoSaid : Prop := layOnceUptoRow.holds Try.pinned (OpenSpec.upto layOnceSpec)

end Rows
end Go.Proofs.Ytfomojflekepoaa
