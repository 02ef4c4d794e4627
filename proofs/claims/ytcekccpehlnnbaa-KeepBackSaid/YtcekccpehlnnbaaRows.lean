/-
  No cell of these rows narrows 'for every input' (looked for: loops, veiled, ifaces, maps, wideKeys, modest, calm, conditions, laid).
  DERIVED. THE GIVEN ROWS OF THIS SEAT. 5 by the template 'for every input the law returns true; each argument reads behind the call as it read before'; 0 by the template 'total and deterministic' (their statements: YtcekccpehlnnbaaTotals.lean).
  GIVEN WITH THE SEED: the statements are not yours to turn. If you find one false, say at which input.
  Laid BY PROGRAM, IN A SANDBOX (cutbox-rows.mjs): the forced cells as the released guide's own fill.sh prints them over the translation c4ebfc50f0d60fe7… (all of the seat's roots in one cut). By AI agents, Wed Nov 11 2026. No macro, syntax, notation, axiom, sorry.
-/
import Derived.Test.YtcekccpehlnnbaaChecked
import GoSem.Claim
import GoSem.ClaimJoined
import GoSem.ClaimMapViews
import Derived.JoinedTies
import Derived.KernelRfl
namespace Go.Proofs.Ytcekccpehlnnbaa
/- THE CELL 'sum', in the pinned program and in every row, IS THE sha256 OF THE DUMP (.gsa) THAT YtcekccpehlnnbaaProg.lean LOADS. Nothing in Lean hashes anything: it is a label: what it is worth is what the hold of that sum in a sandbox is worth. -/
noncomputable def Try.pinned : Pinned := { name := "ytcekccpehlnnbaa", sum := "c4ebfc50f0d60fe7ca0714cf022030388479637c74d892e27f6d1894feccddcd", checked := Try.checked }
namespace Rows
def none {H : Type} : Left H := { results := [], args := [] }

/-- 'affidavitlaw25.KeepPuts': WHATEVER THE INPUT: true; the input reads as it did. -/
def keepPutsSpec : ChangeSpec := { name := "keepPuts", fn := fun _ => fun
  | [d] => { results := [.lit (.bool true)], args := [d] }
  | _ => none }
def keepPutsRow : OpenClaim := { program := "ytcekccpehlnnbaa", sum := "c4ebfc50f0d60fe7ca0714cf022030388479637c74d892e27f6d1894feccddcd", func := "affidavit/affidavitlaw25.KeepPuts", spec := "keepPuts", unfollowed := true, recurses := true, apart := false }
def KeepPutsSaid : Prop := keepPutsRow.holds Try.pinned (OpenSpec.ofChange keepPutsSpec)

/-- ITS FALSE NEIGHBOUR: 'it returns false'. Refute it at one input. -/
def keepPutsWrong : ChangeSpec := { name := "keepPuts", fn := fun _ => fun
  | [d] => { results := [.lit (.bool false)], args := [d] }
  | _ => none }
def KeepPutsWrongFalsely : Prop := keepPutsRow.holds Try.pinned (OpenSpec.ofChange keepPutsWrong)

/-- 'affidavitlaw25.KeepGets': WHATEVER THE INPUT: true; the input reads as it did. -/
def keepGetsSpec : ChangeSpec := { name := "keepGets", fn := fun _ => fun
  | [d] => { results := [.lit (.bool true)], args := [d] }
  | _ => none }
def keepGetsRow : OpenClaim := { program := "ytcekccpehlnnbaa", sum := "c4ebfc50f0d60fe7ca0714cf022030388479637c74d892e27f6d1894feccddcd", func := "affidavit/affidavitlaw25.KeepGets", spec := "keepGets", unfollowed := true, recurses := true, apart := false }
def KeepGetsSaid : Prop := keepGetsRow.holds Try.pinned (OpenSpec.ofChange keepGetsSpec)

/-- ITS FALSE NEIGHBOUR: 'it returns false'. Refute it at one input. -/
def keepGetsWrong : ChangeSpec := { name := "keepGets", fn := fun _ => fun
  | [d] => { results := [.lit (.bool false)], args := [d] }
  | _ => none }
def KeepGetsWrongFalsely : Prop := keepGetsRow.holds Try.pinned (OpenSpec.ofChange keepGetsWrong)

/-- 'affidavitlaw25.KeepBack': WHATEVER THE INPUT: true; the input reads as it did. -/
def keepBackSpec : ChangeSpec := { name := "keepBack", fn := fun _ => fun
  | [d1, d2] => { results := [.lit (.bool true)], args := [d1, d2] }
  | _ => none }
def keepBackRow : OpenClaim := { program := "ytcekccpehlnnbaa", sum := "c4ebfc50f0d60fe7ca0714cf022030388479637c74d892e27f6d1894feccddcd", func := "affidavit/affidavitlaw25.KeepBack", spec := "keepBack", unfollowed := true, recurses := true, apart := false }
def KeepBackSaid : Prop := keepBackRow.holds Try.pinned (OpenSpec.ofChange keepBackSpec)

/-- ITS FALSE NEIGHBOUR: 'it returns false'. Refute it at one input. -/
def keepBackWrong : ChangeSpec := { name := "keepBack", fn := fun _ => fun
  | [d1, d2] => { results := [.lit (.bool false)], args := [d1, d2] }
  | _ => none }
def KeepBackWrongFalsely : Prop := keepBackRow.holds Try.pinned (OpenSpec.ofChange keepBackWrong)

/-- 'affidavitlaw25.KeepApart': WHATEVER THE INPUT: true; the input reads as it did. -/
def keepApartSpec : ChangeSpec := { name := "keepApart", fn := fun _ => fun
  | [d1, d2] => { results := [.lit (.bool true)], args := [d1, d2] }
  | _ => none }
def keepApartRow : OpenClaim := { program := "ytcekccpehlnnbaa", sum := "c4ebfc50f0d60fe7ca0714cf022030388479637c74d892e27f6d1894feccddcd", func := "affidavit/affidavitlaw25.KeepApart", spec := "keepApart", unfollowed := true, recurses := true, apart := false }
def KeepApartSaid : Prop := keepApartRow.holds Try.pinned (OpenSpec.ofChange keepApartSpec)

/-- ITS FALSE NEIGHBOUR: 'it returns false'. Refute it at one input. -/
def keepApartWrong : ChangeSpec := { name := "keepApart", fn := fun _ => fun
  | [d1, d2] => { results := [.lit (.bool false)], args := [d1, d2] }
  | _ => none }
def KeepApartWrongFalsely : Prop := keepApartRow.holds Try.pinned (OpenSpec.ofChange keepApartWrong)

/-- 'affidavitlaw25.KeepSame': WHATEVER THE INPUT: true; the input reads as it did. -/
def keepSameSpec : ChangeSpec := { name := "keepSame", fn := fun _ => fun
  | [d1, d2] => { results := [.lit (.bool true)], args := [d1, d2] }
  | _ => none }
def keepSameRow : OpenClaim := { program := "ytcekccpehlnnbaa", sum := "c4ebfc50f0d60fe7ca0714cf022030388479637c74d892e27f6d1894feccddcd", func := "affidavit/affidavitlaw25.KeepSame", spec := "keepSame", unfollowed := true, recurses := true, apart := false }
def KeepSameSaid : Prop := keepSameRow.holds Try.pinned (OpenSpec.ofChange keepSameSpec)

/-- ITS FALSE NEIGHBOUR: 'it returns false'. Refute it at one input. -/
def keepSameWrong : ChangeSpec := { name := "keepSame", fn := fun _ => fun
  | [d1, d2] => { results := [.lit (.bool false)], args := [d1, d2] }
  | _ => none }
def KeepSameWrongFalsely : Prop := keepSameRow.holds Try.pinned (OpenSpec.ofChange keepSameWrong)

/- THE SECOND FORM. 'bulk': how many values and letters a reading holds, each counted each time it is reached (what is shared counts as often as it is met; a slice's spare places count too). A statement '..UptoSaid' is the law's where the arguments, and the package variables that the reading takes, are together of bulk at most 1048576: NARROWER than '..Said'. Prove '..Said' where nothing that the law and all that it calls make is longer than what came in: it says more and counts as full. Else prove '..UptoSaid'. A law counts once. -/
mutual
def uptoBulk {H : Type} : DataW H → Nat
  | .lit (.string bytes) => bytes.length + 1
  | .lit _ => 1
  | .nil => 1
  | .ptr d => uptoBulk d + 1
  | .slice elems spare => uptoBulkAll elems + uptoBulkAll spare + 1
  | .agg parts => uptoBulkAll parts + 1
  | .iface _ d => uptoBulk d + 1
  | .map entries => uptoBulkEntries entries + 1
  | .held _ => 1
def uptoBulkAll {H : Type} : List (DataW H) → Nat
  | [] => 0
  | d :: r => uptoBulk d + uptoBulkAll r
def uptoBulkEntries {H : Type} : List (Lit × DataW H) → Nat
  | [] => 0
  | x :: r => uptoBulkEntry x + uptoBulkEntries r
def uptoBulkEntry {H : Type} : Lit × DataW H → Nat
  | (.string bytes, d) => bytes.length + uptoBulk d + 1
  | (_, d) => uptoBulk d + 1
 end
def uptoSmall : (H : Type) → List (DataW H) → Bool := fun _ ds => decide (uptoBulkAll ds ≤ 1048576)
def OpenSpec.upto (s : _root_.Go.ChangeSpec) : _root_.Go.OpenSpec := { _root_.Go.OpenSpec.ofChange s with cond := some uptoSmall }

/-- 'affidavitlaw25.KeepPuts', WHERE WHAT IT READS IS OF BULK AT MOST 1048576: true; the input reads as it did. -/
def keepPutsUptoRow : OpenClaim := { program := "ytcekccpehlnnbaa", sum := "c4ebfc50f0d60fe7ca0714cf022030388479637c74d892e27f6d1894feccddcd", func := "affidavit/affidavitlaw25.KeepPuts", spec := "keepPuts", unfollowed := true, recurses := true, apart := false, narrowed := true }
def KeepPutsUptoSaid : Prop := keepPutsUptoRow.holds Try.pinned (OpenSpec.upto keepPutsSpec)

/-- 'affidavitlaw25.KeepGets', WHERE WHAT IT READS IS OF BULK AT MOST 1048576: true; the input reads as it did. -/
def keepGetsUptoRow : OpenClaim := { program := "ytcekccpehlnnbaa", sum := "c4ebfc50f0d60fe7ca0714cf022030388479637c74d892e27f6d1894feccddcd", func := "affidavit/affidavitlaw25.KeepGets", spec := "keepGets", unfollowed := true, recurses := true, apart := false, narrowed := true }
def KeepGetsUptoSaid : Prop := keepGetsUptoRow.holds Try.pinned (OpenSpec.upto keepGetsSpec)

/-- 'affidavitlaw25.KeepBack', WHERE WHAT IT READS IS OF BULK AT MOST 1048576: true; the input reads as it did. -/
def keepBackUptoRow : OpenClaim := { program := "ytcekccpehlnnbaa", sum := "c4ebfc50f0d60fe7ca0714cf022030388479637c74d892e27f6d1894feccddcd", func := "affidavit/affidavitlaw25.KeepBack", spec := "keepBack", unfollowed := true, recurses := true, apart := false, narrowed := true }
def KeepBackUptoSaid : Prop := keepBackUptoRow.holds Try.pinned (OpenSpec.upto keepBackSpec)

/-- 'affidavitlaw25.KeepApart', WHERE WHAT IT READS IS OF BULK AT MOST 1048576: true; the input reads as it did. -/
def keepApartUptoRow : OpenClaim := { program := "ytcekccpehlnnbaa", sum := "c4ebfc50f0d60fe7ca0714cf022030388479637c74d892e27f6d1894feccddcd", func := "affidavit/affidavitlaw25.KeepApart", spec := "keepApart", unfollowed := true, recurses := true, apart := false, narrowed := true }
def KeepApartUptoSaid : Prop := keepApartUptoRow.holds Try.pinned (OpenSpec.upto keepApartSpec)

/-- 'affidavitlaw25.KeepSame', WHERE WHAT IT READS IS OF BULK AT MOST 1048576: true; the input reads as it did. -/
def keepSameUptoRow : OpenClaim := { program := "ytcekccpehlnnbaa", sum := "c4ebfc50f0d60fe7ca0714cf022030388479637c74d892e27f6d1894feccddcd", func := "affidavit/affidavitlaw25.KeepSame", spec := "keepSame", unfollowed := true, recurses := true, apart := false, narrowed := true }
def KeepSameUptoSaid : Prop := keepSameUptoRow.holds Try.pinned (OpenSpec.upto keepSameSpec)

end Rows
end Go.Proofs.Ytcekccpehlnnbaa
