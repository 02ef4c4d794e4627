import Derived.Test.YtcekccpehlnnbaaRows
import Derived.Test.YtcekccpehlnnbaaG10
import Derived.Test.YtcekccpehlnnbaaG21

/- The law KeepApart returns true at every input, and its arguments read behind the call as they did before; no condition beyond those that the given statement itself names. -/
namespace Go.Proofs.Ytcekccpehlnnbaa.KeepApartLaw
open Go.Aff Go.Aff.L25
set_option linter.unusedVariables false

theorem own : ownKnob Try.prog.godebug = none := by kernel_rfl
theorem laidOut : laidOutB Try.prog = true := by kernel_rfl

set_option maxRecDepth 100000 in
theorem lifted (os : Os) (started : os.Started) (H : Type) (enc : TypeId × Value → H) :
    ReturnsInHanded {} Try.checked os 6 .any (Rows.keepApartSpec.pre6 enc Try.prog Try.f6 Rows.keepApartRow.domain false) (Rows.keepApartSpec.post enc Try.prog Try.f6 false true false false) := by
  refine lift_law_w (C := Try.checked) (tb := 4) own started (by kernel_rfl) Try.func6
    (ChangeSpec.witness6 (enc := enc) (C := Try.checked) false ⟨#[], #[.agg #[.string ByteArray.empty, .string ByteArray.empty, .string ByteArray.empty, .slice none 0 0, .slice none 0 0], .agg #[.string ByteArray.empty, .string ByteArray.empty, .string ByteArray.empty, .slice none 0 0, .slice none 0 0]], []⟩ 8 (by kernel_rfl) (by kernel_rfl) (by kernel_rfl) (by kernel_rfl)) rfl ?_ laidOut (by kernel_rfl) (by kernel_rfl) rfl Try.underlying4 ?_
  · intro ds hds
    match ds, hds with
    | [d0, d1], _ => rfl
  · intro vs hvs hwt
    obtain ⟨v0, r0, rfl, hv0, hr0⟩ := shAll_cons (t := 25) (ts := [25]) hvs
    obtain ⟨v1, r1, rfl, hv1, hr1⟩ := shAll_cons (t := 25) (ts := []) hr0
    obtain rfl := shAll_nil hr1
    obtain ⟨t1, t2, a, rfl, hla⟩ := sh_state hv0 hwt.1
    obtain ⟨t3, t4, b, rfl, hlb⟩ := sh_state hv1 hwt.2.1
    exact keepApart_c hla hlb rfl

theorem over : Rows.keepApartRow.holds Try.pinned (OpenSpec.ofChange Rows.keepApartSpec) :=
  OpenClaim.holds_of_wide 6 Try.f6 rfl rfl rfl rfl rfl rfl rfl ⟨rfl, rfl, rfl, rfl, rfl⟩ rfl rfl rfl rfl rfl (by kernel_rfl) Try.func6 (by kernel_rfl)
    (of_decide_eq_true (by kernel_rfl)) (by unfold Func.isWrapper; first | (rw [if_pos (by decide +kernel)]; kernel_rfl) | (rw [if_neg (by decide +kernel)]; exact ⟨rfl, rfl⟩))
    (fun os started H enc _ => lifted os started H enc)
theorem proved : Rows.KeepApartSaid := over
#print axioms proved
end Go.Proofs.Ytcekccpehlnnbaa.KeepApartLaw

