/-
  No cell of these rows narrows 'for every input' (looked for: loops, veiled, ifaces, maps, wideKeys, modest, calm, conditions, laid).
  DERIVED. THE GIVEN ROWS OF THIS SEAT. 4 by the template 'for every input the law returns true; each argument reads behind the call as it read before'; 0 by the template 'total and deterministic' (their statements: YtikbkaedemmpmaaGreatTotals.lean).
  GIVEN WITH THE SEED: the statements are not yours to turn. If you find one false, say at which input.
  Laid BY PROGRAM, IN A SANDBOX (cutbox-rows.mjs): the forced cells as the released guide's own fill.sh prints them over the translation 7793c88b2dc50879… (all of the seat's roots in one cut). By AI agents, Wed Nov 11 2026. No macro, syntax, notation, axiom, sorry.
-/
import Derived.Test.YtikbkaedemmpmaaGreatChecked
import GoSem.Claim
import GoSem.ClaimJoined
import GoSem.ClaimMapViews
import Derived.JoinedTies
import Derived.KernelRfl
namespace Go.Proofs.YtikbkaedemmpmaaGreat
/- THE CELL 'sum', in the pinned program and in every row, IS THE sha256 OF THE DUMP (.gsa) THAT YtikbkaedemmpmaaGreatProg.lean LOADS. Nothing in Lean hashes anything: it is a label: what it is worth is what the hold of that sum in a sandbox is worth. -/
noncomputable def Tryz.pinned : Pinned := { name := "ytikbkaedemmpmaagreat", sum := "7793c88b2dc508795fdc730e833e2cfeb1516124a9096ecba23d44ce08315031", checked := Tryz.checked }
namespace Rows
def none {H : Type} : Left H := { results := [], args := [] }

/-- 'affidavitlaw13.ServerDoes': WHATEVER THE INPUT: true; the input reads as it did. -/
def serverDoesSpec : ChangeSpec := { name := "serverDoes", fn := fun _ => fun
  | [d1, d2] => { results := [.lit (.bool true)], args := [d1, d2] }
  | _ => none }
def serverDoesRow : OpenClaim := { program := "ytikbkaedemmpmaagreat", sum := "7793c88b2dc508795fdc730e833e2cfeb1516124a9096ecba23d44ce08315031", func := "affidavit/affidavitlaw13.ServerDoes", spec := "serverDoes", unfollowed := true, recurses := true, plainKeys := false, apart := false }
def ServerDoesSaid : Prop := serverDoesRow.holds Tryz.pinned (OpenSpec.ofChange serverDoesSpec)

/-- ITS FALSE NEIGHBOUR: 'it returns false'. Refute it at one input. -/
def serverDoesWrong : ChangeSpec := { name := "serverDoes", fn := fun _ => fun
  | [d1, d2] => { results := [.lit (.bool false)], args := [d1, d2] }
  | _ => none }
def ServerDoesWrongFalsely : Prop := serverDoesRow.holds Tryz.pinned (OpenSpec.ofChange serverDoesWrong)

/-- 'affidavitlaw13.ServerAgain': WHATEVER THE INPUT: true; the input reads as it did. -/
def serverAgainSpec : ChangeSpec := { name := "serverAgain", fn := fun _ => fun
  | [d] => { results := [.lit (.bool true)], args := [d] }
  | _ => none }
def serverAgainRow : OpenClaim := { program := "ytikbkaedemmpmaagreat", sum := "7793c88b2dc508795fdc730e833e2cfeb1516124a9096ecba23d44ce08315031", func := "affidavit/affidavitlaw13.ServerAgain", spec := "serverAgain", unfollowed := true, recurses := true, plainKeys := false, apart := false }
def ServerAgainSaid : Prop := serverAgainRow.holds Tryz.pinned (OpenSpec.ofChange serverAgainSpec)

/-- ITS FALSE NEIGHBOUR: 'it returns false'. Refute it at one input. -/
def serverAgainWrong : ChangeSpec := { name := "serverAgain", fn := fun _ => fun
  | [d] => { results := [.lit (.bool false)], args := [d] }
  | _ => none }
def ServerAgainWrongFalsely : Prop := serverAgainRow.holds Tryz.pinned (OpenSpec.ofChange serverAgainWrong)

/-- 'affidavitlaw13.ServerApart': WHATEVER THE INPUT: true; the input reads as it did. -/
def serverApartSpec : ChangeSpec := { name := "serverApart", fn := fun _ => fun
  | [d1, d2, d3] => { results := [.lit (.bool true)], args := [d1, d2, d3] }
  | _ => none }
def serverApartRow : OpenClaim := { program := "ytikbkaedemmpmaagreat", sum := "7793c88b2dc508795fdc730e833e2cfeb1516124a9096ecba23d44ce08315031", func := "affidavit/affidavitlaw13.ServerApart", spec := "serverApart", unfollowed := true, recurses := true, plainKeys := false, apart := false }
def ServerApartSaid : Prop := serverApartRow.holds Tryz.pinned (OpenSpec.ofChange serverApartSpec)

/-- ITS FALSE NEIGHBOUR: 'it returns false'. Refute it at one input. -/
def serverApartWrong : ChangeSpec := { name := "serverApart", fn := fun _ => fun
  | [d1, d2, d3] => { results := [.lit (.bool false)], args := [d1, d2, d3] }
  | _ => none }
def ServerApartWrongFalsely : Prop := serverApartRow.holds Tryz.pinned (OpenSpec.ofChange serverApartWrong)

/-- 'affidavitlaw13.ServerForeign': WHATEVER THE INPUT: true; the input reads as it did. -/
def serverForeignSpec : ChangeSpec := { name := "serverForeign", fn := fun _ => fun
  | [d1, d2, d3] => { results := [.lit (.bool true)], args := [d1, d2, d3] }
  | _ => none }
def serverForeignRow : OpenClaim := { program := "ytikbkaedemmpmaagreat", sum := "7793c88b2dc508795fdc730e833e2cfeb1516124a9096ecba23d44ce08315031", func := "affidavit/affidavitlaw13.ServerForeign", spec := "serverForeign", unfollowed := true, recurses := true, plainKeys := false, apart := false }
def ServerForeignSaid : Prop := serverForeignRow.holds Tryz.pinned (OpenSpec.ofChange serverForeignSpec)

/-- ITS FALSE NEIGHBOUR: 'it returns false'. Refute it at one input. -/
def serverForeignWrong : ChangeSpec := { name := "serverForeign", fn := fun _ => fun
  | [d1, d2, d3] => { results := [.lit (.bool false)], args := [d1, d2, d3] }
  | _ => none }
def ServerForeignWrongFalsely : Prop := serverForeignRow.holds Tryz.pinned (OpenSpec.ofChange serverForeignWrong)

/- THE SECOND FORM. 'bulk': how many values and letters a reading holds, each counted each time it is reached (what is shared counts as often as it is met; a slice's spare places count too). A statement '..UptoSaid' is the law's where the arguments, and the package variables that the reading takes, are together of bulk at most 1048576: NARROWER than '..Said'. Prove '..Said' where nothing that the law and all that it calls make is longer than what came in: it says more and counts as full. Else prove '..UptoSaid'. A law counts once. -/
mutual
def uptoBulk {H : Type} : DataW H → Nat
  | .lit (.string bytes) => bytes.length + 1
  | .lit _ => 1
  | .nil => 1
  | .ptr d => uptoBulk d + 1
  | .slice elems spare => uptoBulkAll elems + uptoBulkAll spare + 1
  | .agg parts => uptoBulkAll parts + 1
  | .iface _ d => uptoBulk d + 1
  | .map entries => uptoBulkEntries entries + 1
  | .held _ => 1
def uptoBulkAll {H : Type} : List (DataW H) → Nat
  | [] => 0
  | d :: r => uptoBulk d + uptoBulkAll r
def uptoBulkEntries {H : Type} : List (Lit × DataW H) → Nat
  | [] => 0
  | x :: r => uptoBulkEntry x + uptoBulkEntries r
def uptoBulkEntry {H : Type} : Lit × DataW H → Nat
  | (.string bytes, d) => bytes.length + uptoBulk d + 1
  | (_, d) => uptoBulk d + 1
 end
def uptoSmall : (H : Type) → List (DataW H) → Bool := fun _ ds => decide (uptoBulkAll ds ≤ 1048576)
def OpenSpec.upto (s : _root_.Go.ChangeSpec) : _root_.Go.OpenSpec := { _root_.Go.OpenSpec.ofChange s with cond := some uptoSmall }

/-- 'affidavitlaw13.ServerDoes', WHERE WHAT IT READS IS OF BULK AT MOST 1048576: true; the input reads as it did. -/
def serverDoesUptoRow : OpenClaim := { program := "ytikbkaedemmpmaagreat", sum := "7793c88b2dc508795fdc730e833e2cfeb1516124a9096ecba23d44ce08315031", func := "affidavit/affidavitlaw13.ServerDoes", spec := "serverDoes", unfollowed := true, recurses := true, plainKeys := false, apart := false, narrowed := true }
def ServerDoesUptoSaid : Prop := serverDoesUptoRow.holds Tryz.pinned (OpenSpec.upto serverDoesSpec)

/-- 'affidavitlaw13.ServerAgain', WHERE WHAT IT READS IS OF BULK AT MOST 1048576: true; the input reads as it did. -/
def serverAgainUptoRow : OpenClaim := { program := "ytikbkaedemmpmaagreat", sum := "7793c88b2dc508795fdc730e833e2cfeb1516124a9096ecba23d44ce08315031", func := "affidavit/affidavitlaw13.ServerAgain", spec := "serverAgain", unfollowed := true, recurses := true, plainKeys := false, apart := false, narrowed := true }
def ServerAgainUptoSaid : Prop := serverAgainUptoRow.holds Tryz.pinned (OpenSpec.upto serverAgainSpec)

/-- 'affidavitlaw13.ServerApart', WHERE WHAT IT READS IS OF BULK AT MOST 1048576: true; the input reads as it did. -/
def serverApartUptoRow : OpenClaim := { program := "ytikbkaedemmpmaagreat", sum := "7793c88b2dc508795fdc730e833e2cfeb1516124a9096ecba23d44ce08315031", func := "affidavit/affidavitlaw13.ServerApart", spec := "serverApart", unfollowed := true, recurses := true, plainKeys := false, apart := false, narrowed := true }
def ServerApartUptoSaid : Prop := serverApartUptoRow.holds Tryz.pinned (OpenSpec.upto serverApartSpec)

/-- 'affidavitlaw13.ServerForeign', WHERE WHAT IT READS IS OF BULK AT MOST 1048576: true; the input reads as it did. -/
def serverForeignUptoRow : OpenClaim := { program := "ytikbkaedemmpmaagreat", sum := "7793c88b2dc508795fdc730e833e2cfeb1516124a9096ecba23d44ce08315031", func := "affidavit/affidavitlaw13.ServerForeign", spec := "serverForeign", unfollowed := true, recurses := true, plainKeys := false, apart := false, narrowed := true }
def ServerForeignUptoSaid : Prop := serverForeignUptoRow.holds Tryz.pinned (OpenSpec.upto serverForeignSpec)

end Rows
end Go.Proofs.YtikbkaedemmpmaaGreat
