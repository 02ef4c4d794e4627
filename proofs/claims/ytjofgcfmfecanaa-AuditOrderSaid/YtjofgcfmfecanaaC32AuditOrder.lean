import Derived.Test.YtjofgcfmfecanaaRows
import Derived.Test.YtjofgcfmfecanaaG16
import Derived.Test.YtjofgcfmfecanaaG38

set_option linter.unusedSimpArgs false
set_option linter.unusedVariables false

/- The law AuditOrder returns true at every input, and its arguments read behind the call as they did before; no condition beyond those that the given statement itself names. -/
namespace Go.Proofs.Ytjofgcfmfecanaa.AuditOrderLaw
open Go.Aff Go.Aff.L10
set_option linter.unusedVariables false

theorem own : ownKnob Try.prog.godebug = none := by kernel_rfl
theorem laidOut : laidOutB Try.prog = true := by kernel_rfl

set_option maxRecDepth 100000 in
theorem lifted (os : Os) (started : os.Started) (H : Type) (enc : TypeId × Value → H) :
    ReturnsInHanded {} Try.checked os 4 .any (Rows.auditOrderSpec.pre6 enc Try.prog Try.f4 Rows.auditOrderRow.domain false) (Rows.auditOrderSpec.post enc Try.prog Try.f4 false true false false) := by
  refine lift_law_n (N := 50) (C := Try.checked) (tb := 4) own started (by kernel_rfl) Try.func4
    (ChangeSpec.witness6 (enc := enc) (C := Try.checked) false ⟨#[], #[.slice none 0 0, .int .u8 0], []⟩ 8 (by kernel_rfl) (by kernel_rfl) (by kernel_rfl) (by kernel_rfl)) rfl ?_ laidOut (by kernel_rfl) (by kernel_rfl) rfl Try.underlying4 ?_
  · intro ds hds
    match ds, hds with
    | [d0, d1], _ => rfl
  · intro vs hvs
    obtain ⟨v0, r0, rfl, hv0, hr0⟩ := shAll_cons (t := 22) (ts := [5]) hvs
    obtain ⟨v1, r1, rfl, hv1, hr1⟩ := shAll_cons (t := 5) (ts := []) hr0
    obtain rfl := shAll_nil hr1
    obtain ⟨ta, la, rfl⟩ := sh_posts (n := 43) hv0
    obtain ⟨m, rfl, hm0, hm1⟩ := sh_int (t := 5) Try.underlying5 hv1
    exact auditOrder_c hm0 hm1 rfl

theorem over : Rows.auditOrderRow.holds Try.pinned (OpenSpec.ofChange Rows.auditOrderSpec) :=
  OpenClaim.holds_of_wide 4 Try.f4 rfl rfl rfl rfl rfl rfl rfl ⟨rfl, rfl, rfl, rfl, rfl⟩ rfl rfl rfl rfl rfl (by kernel_rfl) Try.func4 (by kernel_rfl)
    (of_decide_eq_true (by kernel_rfl)) (by unfold Func.isWrapper; first | (rw [if_pos (by decide +kernel)]; kernel_rfl) | (rw [if_neg (by decide +kernel)]; exact ⟨rfl, rfl⟩))
    (fun os started H enc _ => lifted os started H enc)
theorem proved : Rows.AuditOrderSaid := over
#print axioms proved
end Go.Proofs.Ytjofgcfmfecanaa.AuditOrderLaw

