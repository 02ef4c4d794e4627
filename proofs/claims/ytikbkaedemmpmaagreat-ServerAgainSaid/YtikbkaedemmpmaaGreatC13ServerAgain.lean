import Derived.Test.YtikbkaedemmpmaaGreatG8
import Derived.Test.YtikbkaedemmpmaaGreatRows
import Derived.Test.YtikbkaedemmpmaaGreatG19

set_option linter.unusedSimpArgs false
set_option linter.unusedVariables false

/- The law ServerAgain returns true at every input, and its arguments read behind the call as they did before; no condition beyond those that the given statement itself names. -/
namespace Go.Proofs.YtikbkaedemmpmaaGreat.ServerAgainLaw
open Go.Aff Go.Aff.L10
set_option linter.unusedVariables false

theorem own : ownKnob Tryz.prog.godebug = none := by kernel_rfl
theorem laidOut : laidOutB Tryz.prog = true := by kernel_rfl

set_option maxRecDepth 100000 in
theorem lifted (os : Os) (started : os.Started) (H : Type) (enc : TypeId × Value → H) :
    ReturnsInHanded {} Tryz.checked os 4 .any (Rows.serverAgainSpec.pre6 enc Tryz.prog Tryz.f4 Rows.serverAgainRow.domain false) (Rows.serverAgainSpec.post enc Tryz.prog Tryz.f4 false true false false) := by
  refine lift_law_n (N := 51) (C := Tryz.checked) (tb := 4) own started (by kernel_rfl) Tryz.func4
    (ChangeSpec.witness6 (enc := enc) (C := Tryz.checked) false ⟨#[], #[.slice none 0 0], []⟩ 8 (by kernel_rfl) (by kernel_rfl) (by kernel_rfl) (by kernel_rfl)) rfl ?_ laidOut (by kernel_rfl) (by kernel_rfl) rfl Tryz.underlying4 ?_
  · intro ds hds
    match ds, hds with
    | [d0], _ => rfl
  · intro vs hvs
    obtain ⟨v0, r0, rfl, hv0, hr0⟩ := shAll_cons (t := 22) (ts := []) hvs
    obtain rfl := shAll_nil hr0
    obtain ⟨ta, la, rfl, ha⟩ := sh_acts13 hv0
    exact serverAgain_c ha rfl

theorem over : Rows.serverAgainRow.holds Tryz.pinned (OpenSpec.ofChange Rows.serverAgainSpec) :=
  OpenClaim.holds_of_wide 4 Tryz.f4 rfl rfl rfl rfl rfl rfl rfl ⟨rfl, rfl, rfl, rfl, rfl⟩ rfl rfl rfl rfl rfl (by kernel_rfl) Tryz.func4 (by kernel_rfl)
    (of_decide_eq_true (by kernel_rfl)) (by unfold Func.isWrapper; first | (rw [if_pos (by decide +kernel)]; kernel_rfl) | (rw [if_neg (by decide +kernel)]; exact ⟨rfl, rfl⟩))
    (fun os started H enc _ => lifted os started H enc)
theorem proved : Rows.ServerAgainSaid := over
#print axioms proved
end Go.Proofs.YtikbkaedemmpmaaGreat.ServerAgainLaw

