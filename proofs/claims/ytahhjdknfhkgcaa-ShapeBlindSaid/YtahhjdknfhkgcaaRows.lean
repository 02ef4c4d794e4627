/-
  No cell of these rows narrows 'for every input' (looked for: loops, veiled, ifaces, maps, wideKeys, modest, calm, conditions, laid).
  DERIVED. THE GIVEN ROWS OF THIS SEAT. 5 by the template 'for every input the law returns true; each argument reads behind the call as it read before'; 0 by the template 'total and deterministic' (their statements: YtahhjdknfhkgcaaTotals.lean).
  GIVEN WITH THE SEED: the statements are not yours to turn. If you find one false, say at which input.
  Laid BY PROGRAM, IN A SANDBOX (cutbox-rows.mjs): the forced cells as the released guide's own fill.sh prints them over the translation 188f1a790704c47a… (all of the seat's roots in one cut). By AI agents, Wed Nov 11 2026. No macro, syntax, notation, axiom, sorry.
-/
import Derived.Test.YtahhjdknfhkgcaaChecked
import GoSem.Claim
import GoSem.ClaimJoined
import GoSem.ClaimMapViews
import Derived.JoinedTies
import Derived.KernelRfl
namespace Go.Proofs.Ytahhjdknfhkgcaa
/- THE CELL 'sum', in the pinned program and in every row, IS THE sha256 OF THE DUMP (.gsa) THAT YtahhjdknfhkgcaaProg.lean LOADS. Nothing in Lean hashes anything: it is a label: what it is worth is what the hold of that sum in a sandbox is worth. -/
noncomputable def Try.pinned : Pinned := { name := "ytahhjdknfhkgcaa", sum := "188f1a790704c47a5d32fe11414960c52d1cd757c07341cab4af2926f82e0db8", checked := Try.checked }
namespace Rows
def none {H : Type} : Left H := { results := [], args := [] }

/-- 'affidavitlaw31.ShapeChanges': WHATEVER THE INPUT: true; the input reads as it did. -/
def shapeChangesSpec : ChangeSpec := { name := "shapeChanges", fn := fun _ => fun
  | [d] => { results := [.lit (.bool true)], args := [d] }
  | _ => none }
def shapeChangesRow : OpenClaim := { program := "ytahhjdknfhkgcaa", sum := "188f1a790704c47a5d32fe11414960c52d1cd757c07341cab4af2926f82e0db8", func := "affidavit/affidavitlaw31.ShapeChanges", spec := "shapeChanges", unfollowed := true, recurses := true, apart := false }
def ShapeChangesSaid : Prop := shapeChangesRow.holds Try.pinned (OpenSpec.ofChange shapeChangesSpec)

/-- ITS FALSE NEIGHBOUR: 'it returns false'. Refute it at one input. -/
def shapeChangesWrong : ChangeSpec := { name := "shapeChanges", fn := fun _ => fun
  | [d] => { results := [.lit (.bool false)], args := [d] }
  | _ => none }
def ShapeChangesWrongFalsely : Prop := shapeChangesRow.holds Try.pinned (OpenSpec.ofChange shapeChangesWrong)

/-- 'affidavitlaw31.ShapePictures': WHATEVER THE INPUT: true; the input reads as it did. -/
def shapePicturesSpec : ChangeSpec := { name := "shapePictures", fn := fun _ => fun
  | [d1, d2] => { results := [.lit (.bool true)], args := [d1, d2] }
  | _ => none }
def shapePicturesRow : OpenClaim := { program := "ytahhjdknfhkgcaa", sum := "188f1a790704c47a5d32fe11414960c52d1cd757c07341cab4af2926f82e0db8", func := "affidavit/affidavitlaw31.ShapePictures", spec := "shapePictures", unfollowed := true, recurses := true, apart := false }
def ShapePicturesSaid : Prop := shapePicturesRow.holds Try.pinned (OpenSpec.ofChange shapePicturesSpec)

/-- ITS FALSE NEIGHBOUR: 'it returns false'. Refute it at one input. -/
def shapePicturesWrong : ChangeSpec := { name := "shapePictures", fn := fun _ => fun
  | [d1, d2] => { results := [.lit (.bool false)], args := [d1, d2] }
  | _ => none }
def ShapePicturesWrongFalsely : Prop := shapePicturesRow.holds Try.pinned (OpenSpec.ofChange shapePicturesWrong)

/-- 'affidavitlaw31.ShapeBlind': WHATEVER THE INPUT: true; the input reads as it did. -/
def shapeBlindSpec : ChangeSpec := { name := "shapeBlind", fn := fun _ => fun
  | [d] => { results := [.lit (.bool true)], args := [d] }
  | _ => none }
def shapeBlindRow : OpenClaim := { program := "ytahhjdknfhkgcaa", sum := "188f1a790704c47a5d32fe11414960c52d1cd757c07341cab4af2926f82e0db8", func := "affidavit/affidavitlaw31.ShapeBlind", spec := "shapeBlind", unfollowed := true, recurses := true, apart := false }
def ShapeBlindSaid : Prop := shapeBlindRow.holds Try.pinned (OpenSpec.ofChange shapeBlindSpec)

/-- ITS FALSE NEIGHBOUR: 'it returns false'. Refute it at one input. -/
def shapeBlindWrong : ChangeSpec := { name := "shapeBlind", fn := fun _ => fun
  | [d] => { results := [.lit (.bool false)], args := [d] }
  | _ => none }
def ShapeBlindWrongFalsely : Prop := shapeBlindRow.holds Try.pinned (OpenSpec.ofChange shapeBlindWrong)

/-- 'affidavitlaw31.ShapeExact': WHATEVER THE INPUT: true; the input reads as it did. -/
def shapeExactSpec : ChangeSpec := { name := "shapeExact", fn := fun _ => fun
  | [d] => { results := [.lit (.bool true)], args := [d] }
  | _ => none }
def shapeExactRow : OpenClaim := { program := "ytahhjdknfhkgcaa", sum := "188f1a790704c47a5d32fe11414960c52d1cd757c07341cab4af2926f82e0db8", func := "affidavit/affidavitlaw31.ShapeExact", spec := "shapeExact", unfollowed := true, recurses := true, apart := false }
def ShapeExactSaid : Prop := shapeExactRow.holds Try.pinned (OpenSpec.ofChange shapeExactSpec)

/-- ITS FALSE NEIGHBOUR: 'it returns false'. Refute it at one input. -/
def shapeExactWrong : ChangeSpec := { name := "shapeExact", fn := fun _ => fun
  | [d] => { results := [.lit (.bool false)], args := [d] }
  | _ => none }
def ShapeExactWrongFalsely : Prop := shapeExactRow.holds Try.pinned (OpenSpec.ofChange shapeExactWrong)

/-- 'affidavitlaw31.ShapeSizes': WHATEVER THE INPUT: true; the input reads as it did. -/
def shapeSizesSpec : ChangeSpec := { name := "shapeSizes", fn := fun _ => fun
  | [d] => { results := [.lit (.bool true)], args := [d] }
  | _ => none }
def shapeSizesRow : OpenClaim := { program := "ytahhjdknfhkgcaa", sum := "188f1a790704c47a5d32fe11414960c52d1cd757c07341cab4af2926f82e0db8", func := "affidavit/affidavitlaw31.ShapeSizes", spec := "shapeSizes", unfollowed := true, recurses := true, apart := false }
def ShapeSizesSaid : Prop := shapeSizesRow.holds Try.pinned (OpenSpec.ofChange shapeSizesSpec)

/-- ITS FALSE NEIGHBOUR: 'it returns false'. Refute it at one input. -/
def shapeSizesWrong : ChangeSpec := { name := "shapeSizes", fn := fun _ => fun
  | [d] => { results := [.lit (.bool false)], args := [d] }
  | _ => none }
def ShapeSizesWrongFalsely : Prop := shapeSizesRow.holds Try.pinned (OpenSpec.ofChange shapeSizesWrong)

/- THE SECOND FORM. 'bulk': how many values and letters a reading holds, each counted each time it is reached (what is shared counts as often as it is met; a slice's spare places count too). A statement '..UptoSaid' is the law's where the arguments, and the package variables that the reading takes, are together of bulk at most 1048576: NARROWER than '..Said'. Prove '..Said' where nothing that the law and all that it calls make is longer than what came in: it says more and counts as full. Else prove '..UptoSaid'. A law counts once. -/
mutual
def uptoBulk {H : Type} : DataW H → Nat
  | .lit (.string bytes) => bytes.length + 1
  | .lit _ => 1
  | .nil => 1
  | .ptr d => uptoBulk d + 1
  | .slice elems spare => uptoBulkAll elems + uptoBulkAll spare + 1
  | .agg parts => uptoBulkAll parts + 1
  | .iface _ d => uptoBulk d + 1
  | .map entries => uptoBulkEntries entries + 1
  | .held _ => 1
def uptoBulkAll {H : Type} : List (DataW H) → Nat
  | [] => 0
  | d :: r => uptoBulk d + uptoBulkAll r
def uptoBulkEntries {H : Type} : List (Lit × DataW H) → Nat
  | [] => 0
  | x :: r => uptoBulkEntry x + uptoBulkEntries r
def uptoBulkEntry {H : Type} : Lit × DataW H → Nat
  | (.string bytes, d) => bytes.length + uptoBulk d + 1
  | (_, d) => uptoBulk d + 1
 end
def uptoSmall : (H : Type) → List (DataW H) → Bool := fun _ ds => decide (uptoBulkAll ds ≤ 1048576)
def OpenSpec.upto (s : _root_.Go.ChangeSpec) : _root_.Go.OpenSpec := { _root_.Go.OpenSpec.ofChange s with cond := some uptoSmall }

/-- 'affidavitlaw31.ShapeChanges', WHERE WHAT IT READS IS OF BULK AT MOST 1048576: true; the input reads as it did. -/
def shapeChangesUptoRow : OpenClaim := { program := "ytahhjdknfhkgcaa", sum := "188f1a790704c47a5d32fe11414960c52d1cd757c07341cab4af2926f82e0db8", func := "affidavit/affidavitlaw31.ShapeChanges", spec := "shapeChanges", unfollowed := true, recurses := true, apart := false, narrowed := true }
def ShapeChangesUptoSaid : Prop := shapeChangesUptoRow.holds Try.pinned (OpenSpec.upto shapeChangesSpec)

/-- 'affidavitlaw31.ShapePictures', WHERE WHAT IT READS IS OF BULK AT MOST 1048576: true; the input reads as it did. -/
def shapePicturesUptoRow : OpenClaim := { program := "ytahhjdknfhkgcaa", sum := "188f1a790704c47a5d32fe11414960c52d1cd757c07341cab4af2926f82e0db8", func := "affidavit/affidavitlaw31.ShapePictures", spec := "shapePictures", unfollowed := true, recurses := true, apart := false, narrowed := true }
def ShapePicturesUptoSaid : Prop := shapePicturesUptoRow.holds Try.pinned (OpenSpec.upto shapePicturesSpec)

/-- 'affidavitlaw31.ShapeBlind', WHERE WHAT IT READS IS OF BULK AT MOST 1048576: true; the input reads as it did. -/
def shapeBlindUptoRow : OpenClaim := { program := "ytahhjdknfhkgcaa", sum := "188f1a790704c47a5d32fe11414960c52d1cd757c07341cab4af2926f82e0db8", func := "affidavit/affidavitlaw31.ShapeBlind", spec := "shapeBlind", unfollowed := true, recurses := true, apart := false, narrowed := true }
def ShapeBlindUptoSaid : Prop := shapeBlindUptoRow.holds Try.pinned (OpenSpec.upto shapeBlindSpec)

/-- 'affidavitlaw31.ShapeExact', WHERE WHAT IT READS IS OF BULK AT MOST 1048576: true; the input reads as it did. -/
def shapeExactUptoRow : OpenClaim := { program := "ytahhjdknfhkgcaa", sum := "188f1a790704c47a5d32fe11414960c52d1cd757c07341cab4af2926f82e0db8", func := "affidavit/affidavitlaw31.ShapeExact", spec := "shapeExact", unfollowed := true, recurses := true, apart := false, narrowed := true }
def ShapeExactUptoSaid : Prop := shapeExactUptoRow.holds Try.pinned (OpenSpec.upto shapeExactSpec)

/-- 'affidavitlaw31.ShapeSizes', WHERE WHAT IT READS IS OF BULK AT MOST 1048576: true; the input reads as it did. -/
def shapeSizesUptoRow : OpenClaim := { program := "ytahhjdknfhkgcaa", sum := "188f1a790704c47a5d32fe11414960c52d1cd757c07341cab4af2926f82e0db8", func := "affidavit/affidavitlaw31.ShapeSizes", spec := "shapeSizes", unfollowed := true, recurses := true, apart := false, narrowed := true }
def ShapeSizesUptoSaid : Prop := shapeSizesUptoRow.holds Try.pinned (OpenSpec.upto shapeSizesSpec)

end Rows
end Go.Proofs.Ytahhjdknfhkgcaa
