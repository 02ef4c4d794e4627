import Derived.Test.YtcekccpehlnnbaaRows
import Derived.Test.YtcekccpehlnnbaaG10
import Derived.Test.YtcekccpehlnnbaaG21

/- The law KeepPuts returns true at every input, and its arguments read behind the call as they did before; no condition beyond those that the given statement itself names. -/
namespace Go.Proofs.Ytcekccpehlnnbaa.KeepPutsLaw
open Go.Aff Go.Aff.L25
set_option linter.unusedVariables false

theorem own : ownKnob Try.prog.godebug = none := by kernel_rfl
theorem laidOut : laidOutB Try.prog = true := by kernel_rfl

set_option maxRecDepth 100000 in
theorem lifted (os : Os) (started : os.Started) (H : Type) (enc : TypeId × Value → H) :
    ReturnsInHanded {} Try.checked os 3 .any (Rows.keepPutsSpec.pre6 enc Try.prog Try.f3 Rows.keepPutsRow.domain false) (Rows.keepPutsSpec.post enc Try.prog Try.f3 false true false false) := by
  refine lift_law_w (C := Try.checked) (tb := 4) own started (by kernel_rfl) Try.func3
    (ChangeSpec.witness6 (enc := enc) (C := Try.checked) false ⟨#[], #[.agg #[.string ByteArray.empty, .string ByteArray.empty, .string ByteArray.empty, .slice none 0 0, .slice none 0 0]], []⟩ 8 (by kernel_rfl) (by kernel_rfl) (by kernel_rfl) (by kernel_rfl)) rfl ?_ laidOut (by kernel_rfl) (by kernel_rfl) rfl Try.underlying4 ?_
  · intro ds hds
    match ds, hds with
    | [d0], _ => rfl
  · intro vs hvs hwt
    obtain ⟨v0, r0, rfl, hv0, hr0⟩ := shAll_cons (t := 25) (ts := []) hvs
    obtain rfl := shAll_nil hr0
    obtain ⟨t1, t2, st, rfl, hlp⟩ := sh_state hv0 hwt.1
    exact keepPuts_c hlp rfl

theorem over : Rows.keepPutsRow.holds Try.pinned (OpenSpec.ofChange Rows.keepPutsSpec) :=
  OpenClaim.holds_of_wide 3 Try.f3 rfl rfl rfl rfl rfl rfl rfl ⟨rfl, rfl, rfl, rfl, rfl⟩ rfl rfl rfl rfl rfl (by kernel_rfl) Try.func3 (by kernel_rfl)
    (of_decide_eq_true (by kernel_rfl)) (by unfold Func.isWrapper; first | (rw [if_pos (by decide +kernel)]; kernel_rfl) | (rw [if_neg (by decide +kernel)]; exact ⟨rfl, rfl⟩))
    (fun os started H enc _ => lifted os started H enc)
theorem proved : Rows.KeepPutsSaid := over
#print axioms proved
end Go.Proofs.Ytcekccpehlnnbaa.KeepPutsLaw

