import Derived.Test.YtikbkaedemmpmaaRows
import Derived.Test.YtikbkaedemmpmaaG16
import Derived.Test.YtikbkaedemmpmaaG35

set_option linter.unusedSimpArgs false
set_option linter.unusedVariables false

/- The law ServerNone returns true at every input, and its arguments read behind the call as they did before; no condition beyond those that the given statement itself names. -/
namespace Go.Proofs.Ytikbkaedemmpmaa.ServerNoneLaw
open Go.Aff Go.Aff.L10
set_option linter.unusedVariables false

theorem own : ownKnob Try.prog.godebug = none := by kernel_rfl
theorem laidOut : laidOutB Try.prog = true := by kernel_rfl

set_option maxRecDepth 100000 in
theorem lifted (os : Os) (started : os.Started) (H : Type) (enc : TypeId × Value → H) :
    ReturnsInHanded {} Try.checked os 3 .any (Rows.serverNoneSpec.pre6 enc Try.prog Try.f3 Rows.serverNoneRow.domain false) (Rows.serverNoneSpec.post enc Try.prog Try.f3 false true false false) := by
  refine lift_law_n (N := 50) (C := Try.checked) (tb := 4) own started (by kernel_rfl) Try.func3
    (ChangeSpec.witness6 (enc := enc) (C := Try.checked) false ⟨#[], #[.int .i64 0, .string ByteArray.empty], []⟩ 8 (by kernel_rfl) (by kernel_rfl) (by kernel_rfl) (by kernel_rfl)) rfl ?_ laidOut (by kernel_rfl) (by kernel_rfl) rfl Try.underlying4 ?_
  · intro ds hds
    match ds, hds with
    | [d0, d1], _ => rfl
  · intro vs hvs
    obtain ⟨v0, r0, rfl, hv0, hr0⟩ := shAll_cons (t := 3) (ts := [9]) hvs
    obtain ⟨v1, r1, rfl, hv1, hr1⟩ := shAll_cons (t := 9) (ts := []) hr0
    obtain rfl := shAll_nil hr1
    obtain ⟨c, rfl, _, _⟩ := sh_int (t := 3) Try.underlying3 hv0
    obtain ⟨b, rfl⟩ := sh_str (t := 9) Try.underlying9 hv1
    exact serverNone_c rfl

theorem over : Rows.serverNoneRow.holds Try.pinned (OpenSpec.ofChange Rows.serverNoneSpec) :=
  OpenClaim.holds_of_wide 3 Try.f3 rfl rfl rfl rfl rfl rfl rfl ⟨rfl, rfl, rfl, rfl, rfl⟩ rfl rfl rfl rfl rfl (by kernel_rfl) Try.func3 (by kernel_rfl)
    (of_decide_eq_true (by kernel_rfl)) (by unfold Func.isWrapper; first | (rw [if_pos (by decide +kernel)]; kernel_rfl) | (rw [if_neg (by decide +kernel)]; exact ⟨rfl, rfl⟩))
    (fun os started H enc _ => lifted os started H enc)
theorem proved : Rows.ServerNoneSaid := over
#print axioms proved
end Go.Proofs.Ytikbkaedemmpmaa.ServerNoneLaw

