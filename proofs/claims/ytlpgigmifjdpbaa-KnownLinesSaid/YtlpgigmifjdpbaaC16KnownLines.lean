import Derived.Test.YtlpgigmifjdpbaaRows
import Derived.Test.YtlpgigmifjdpbaaG9
import Derived.Test.YtlpgigmifjdpbaaG18

/- The law KnownLines returns true at every input, and its arguments read behind the call as they did before; no condition beyond those that the given statement itself names. -/
namespace Go.Proofs.Ytlpgigmifjdpbaa.KnownLinesLaw
open Go.Aff Go.Aff.L16
set_option linter.unusedVariables false

theorem own : ownKnob Try.prog.godebug = none := by kernel_rfl
theorem laidOut : laidOutB Try.prog = true := by kernel_rfl

set_option maxRecDepth 100000 in
theorem lifted (os : Os) (started : os.Started) (H : Type) (enc : TypeId × Value → H) :
    ReturnsInHanded {} Try.checked os 6 .any (Rows.knownLinesSpec.pre6 enc Try.prog Try.f6 Rows.knownLinesRow.domain false) (Rows.knownLinesSpec.post enc Try.prog Try.f6 false true false false) := by
  refine lift_law (C := Try.checked) (tb := 4) own started (by kernel_rfl) Try.func6
    (ChangeSpec.witness6 (enc := enc) (C := Try.checked) false ⟨#[], #[.int .i64 0, .int .i64 0, .slice none 0 0], []⟩ 8 (by kernel_rfl) (by kernel_rfl) (by kernel_rfl) (by kernel_rfl)) rfl ?_ laidOut (by kernel_rfl) (by kernel_rfl) rfl Try.underlying4 ?_
  · intro ds hds
    match ds, hds with
    | [d0, d1, d2], _ => rfl
  · intro vs hvs
    obtain ⟨v0, r0, rfl, hv0, hr0⟩ := shAll_cons (t := 3) (ts := [3, 22]) hvs
    obtain ⟨v1, r1, rfl, hv1, hr1⟩ := shAll_cons (t := 3) (ts := [22]) hr0
    obtain ⟨v2, r2, rfl, hv2, hr2⟩ := shAll_cons (t := 22) (ts := []) hr1
    obtain rfl := shAll_nil hr2
    obtain ⟨c, rfl⟩ := sh_i64 (n := 11) hv0
    obtain ⟨m, rfl⟩ := sh_i64 (n := 11) hv1
    obtain ⟨tk, l, rfl⟩ := sh_lines (n := 5) hv2
    exact knownLines_c rfl

theorem over : Rows.knownLinesRow.holds Try.pinned (OpenSpec.ofChange Rows.knownLinesSpec) :=
  OpenClaim.holds_of_wide 6 Try.f6 rfl rfl rfl rfl rfl rfl rfl ⟨rfl, rfl, rfl, rfl, rfl⟩ rfl rfl rfl rfl rfl (by kernel_rfl) Try.func6 (by kernel_rfl)
    (of_decide_eq_true (by kernel_rfl)) (by unfold Func.isWrapper; first | (rw [if_pos (by decide +kernel)]; kernel_rfl) | (rw [if_neg (by decide +kernel)]; exact ⟨rfl, rfl⟩))
    (fun os started H enc _ => lifted os started H enc)
theorem proved : Rows.KnownLinesSaid := over
#print axioms proved
end Go.Proofs.Ytlpgigmifjdpbaa.KnownLinesLaw

