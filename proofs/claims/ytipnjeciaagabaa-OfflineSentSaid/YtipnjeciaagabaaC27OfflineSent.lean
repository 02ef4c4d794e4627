import Derived.Test.YtipnjeciaagabaaRows
import Derived.Test.YtipnjeciaagabaaG16
import Derived.Test.YtipnjeciaagabaaG38

set_option linter.unusedSimpArgs false
set_option linter.unusedVariables false

/- The law OfflineSent returns true at every input, and its arguments read behind the call as they did before; no condition beyond those that the given statement itself names. -/
namespace Go.Proofs.Ytipnjeciaagabaa.OfflineSentLaw
open Go.Aff Go.Aff.L10
set_option linter.unusedVariables false

theorem own : ownKnob Try.prog.godebug = none := by kernel_rfl
theorem laidOut : laidOutB Try.prog = true := by kernel_rfl

set_option maxRecDepth 100000 in
theorem lifted (os : Os) (started : os.Started) (H : Type) (enc : TypeId × Value → H) :
    ReturnsInHanded {} Try.checked os 5 .any (Rows.offlineSentSpec.pre6 enc Try.prog Try.f5 Rows.offlineSentRow.domain false) (Rows.offlineSentSpec.post enc Try.prog Try.f5 false true false false) := by
  refine lift_law_n (N := 51) (C := Try.checked) (tb := 4) own started (by kernel_rfl) Try.func5
    (ChangeSpec.witness6 (enc := enc) (C := Try.checked) false ⟨#[], #[.slice none 0 0], []⟩ 8 (by kernel_rfl) (by kernel_rfl) (by kernel_rfl) (by kernel_rfl)) rfl ?_ laidOut (by kernel_rfl) (by kernel_rfl) rfl Try.underlying4 ?_
  · intro ds hds
    match ds, hds with
    | [d0], _ => rfl
  · intro vs hvs
    obtain ⟨v0, r0, rfl, hv0, hr0⟩ := shAll_cons (t := 22) (ts := []) hvs
    obtain rfl := shAll_nil hr0
    obtain ⟨ta, la, rfl, ha⟩ := sh_asks hv0
    exact offlineSent_d ha rfl

theorem over : Rows.offlineSentRow.holds Try.pinned (OpenSpec.ofChange Rows.offlineSentSpec) :=
  OpenClaim.holds_of_wide 5 Try.f5 rfl rfl rfl rfl rfl rfl rfl ⟨rfl, rfl, rfl, rfl, rfl⟩ rfl rfl rfl rfl rfl (by kernel_rfl) Try.func5 (by kernel_rfl)
    (of_decide_eq_true (by kernel_rfl)) (by unfold Func.isWrapper; first | (rw [if_pos (by decide +kernel)]; kernel_rfl) | (rw [if_neg (by decide +kernel)]; exact ⟨rfl, rfl⟩))
    (fun os started H enc _ => lifted os started H enc)
theorem proved : Rows.OfflineSentSaid := over
#print axioms proved
end Go.Proofs.Ytipnjeciaagabaa.OfflineSentLaw

