import Derived.Test.YtcekccpehlnnbaaRows
import Derived.Test.YtcekccpehlnnbaaG10
import Derived.Test.YtcekccpehlnnbaaG21

/- The law KeepGets returns true at every input, and its arguments read behind the call as they did before; no condition beyond those that the given statement itself names. -/
namespace Go.Proofs.Ytcekccpehlnnbaa.KeepGetsLaw
open Go.Aff Go.Aff.L25
set_option linter.unusedVariables false

theorem own : ownKnob Try.prog.godebug = none := by kernel_rfl
theorem laidOut : laidOutB Try.prog = true := by kernel_rfl

set_option maxRecDepth 100000 in
theorem lifted (os : Os) (started : os.Started) (H : Type) (enc : TypeId × Value → H) :
    ReturnsInHanded {} Try.checked os 4 .any (Rows.keepGetsSpec.pre6 enc Try.prog Try.f4 Rows.keepGetsRow.domain false) (Rows.keepGetsSpec.post enc Try.prog Try.f4 false true false false) := by
  refine lift_law_w (C := Try.checked) (tb := 4) own started (by kernel_rfl) Try.func4
    (ChangeSpec.witness6 (enc := enc) (C := Try.checked) false ⟨#[], #[.string ByteArray.empty], []⟩ 8 (by kernel_rfl) (by kernel_rfl) (by kernel_rfl) (by kernel_rfl)) rfl ?_ laidOut (by kernel_rfl) (by kernel_rfl) rfl Try.underlying4 ?_
  · intro ds hds
    match ds, hds with
    | [d0], _ => rfl
  · intro vs hvs hwt
    obtain ⟨v0, r0, rfl, hv0, hr0⟩ := shAll_cons (t := 9) (ts := []) hvs
    obtain rfl := shAll_nil hr0
    obtain ⟨s, rfl⟩ := sh_str (n := 11) (t := 9) Try.underlying9 hv0
    exact keepGets_c rfl

theorem over : Rows.keepGetsRow.holds Try.pinned (OpenSpec.ofChange Rows.keepGetsSpec) :=
  OpenClaim.holds_of_wide 4 Try.f4 rfl rfl rfl rfl rfl rfl rfl ⟨rfl, rfl, rfl, rfl, rfl⟩ rfl rfl rfl rfl rfl (by kernel_rfl) Try.func4 (by kernel_rfl)
    (of_decide_eq_true (by kernel_rfl)) (by unfold Func.isWrapper; first | (rw [if_pos (by decide +kernel)]; kernel_rfl) | (rw [if_neg (by decide +kernel)]; exact ⟨rfl, rfl⟩))
    (fun os started H enc _ => lifted os started H enc)
theorem proved : Rows.KeepGetsSaid := over
#print axioms proved
end Go.Proofs.Ytcekccpehlnnbaa.KeepGetsLaw

