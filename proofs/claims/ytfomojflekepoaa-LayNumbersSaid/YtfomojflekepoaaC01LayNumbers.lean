/- The law affidavitlaw01.LayNumbers returns true at every input, and its argument reads behind the call as it did before; no condition beyond those that the given statement itself names. -/
import Derived.Test.YtfomojflekepoaaRows
import Derived.Test.YtfomojflekepoaaAffU
import Derived.Test.YtfomojflekepoaaW01f
namespace Go.Proofs.Ytfomojflekepoaa.LayNumbersLaw
open Go.Aff Go.Aff.L01
set_option linter.unusedVariables false

theorem own : ownKnob Try.prog.godebug = none := by kernel_rfl
theorem laidOut : laidOutB Try.prog = true := by kernel_rfl

set_option maxRecDepth 100000 in
theorem lifted (os : Os) (started : os.Started) (H : Type) (enc : TypeId × Value → H) :
    ReturnsInHanded {} Try.checked os 3 .any (Rows.layNumbersSpec.pre6 enc Try.prog Try.f3 Rows.layNumbersRow.domain false) (Rows.layNumbersSpec.post enc Try.prog Try.f3 false true false false) := by
  refine lift_law (C := Try.checked) (tb := 4) own started (by kernel_rfl) Try.func3
    (ChangeSpec.witness6 (enc := enc) (C := Try.checked) false ⟨#[], #[.int .i64 0], []⟩ 8 (by kernel_rfl) (by kernel_rfl) (by kernel_rfl) (by kernel_rfl)) rfl ?_ laidOut (by kernel_rfl) (by kernel_rfl) rfl Try.underlying4 ?_
  · intro ds hds
    match ds, hds with
    | [d], _ => rfl
  · intro vs hvs
    obtain ⟨v, r, rfl, hv, hr⟩ := shAll_cons (t := 3) (ts := []) hvs
    obtain rfl := shAll_nil hr
    obtain ⟨n, rfl, h0, h1⟩ := sh_int (n := 11) Try.underlying3 hv
    exact layNumbers_c (i64_range h0 h1).1 (i64_range h0 h1).2 rfl

theorem over : Rows.layNumbersRow.holds Try.pinned (OpenSpec.ofChange Rows.layNumbersSpec) :=
  OpenClaim.holds_of_wide 3 Try.f3 rfl rfl rfl rfl rfl rfl rfl ⟨rfl, rfl, rfl, rfl, rfl⟩ rfl rfl rfl rfl rfl (by kernel_rfl) Try.func3 (by kernel_rfl)
    (of_decide_eq_true (by kernel_rfl)) (by unfold Func.isWrapper; first | (rw [if_pos (by decide +kernel)]; kernel_rfl) | (rw [if_neg (by decide +kernel)]; exact ⟨rfl, rfl⟩))
    (fun os started H enc _ => lifted os started H enc)
theorem proved : Rows.LayNumbersSaid := over
#print axioms proved
end Go.Proofs.Ytfomojflekepoaa.LayNumbersLaw
