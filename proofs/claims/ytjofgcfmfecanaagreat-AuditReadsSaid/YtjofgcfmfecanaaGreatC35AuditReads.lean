import Derived.Test.YtjofgcfmfecanaaGreatRows
import Derived.Test.YtjofgcfmfecanaaGreatG7
import Derived.Test.YtjofgcfmfecanaaGreatG19

set_option linter.unusedSimpArgs false
set_option linter.unusedVariables false

/- The law AuditReads returns true at every input, and its arguments read behind the call as they did before; no condition beyond those that the given statement itself names. -/
namespace Go.Proofs.YtjofgcfmfecanaaGreat.AuditReadsLaw
open Go.Aff Go.Aff.L10
set_option linter.unusedVariables false

theorem own : ownKnob Tryz.prog.godebug = none := by kernel_rfl
theorem laidOut : laidOutB Tryz.prog = true := by kernel_rfl

set_option maxRecDepth 100000 in
theorem lifted (os : Os) (started : os.Started) (H : Type) (enc : TypeId × Value → H) :
    ReturnsInHanded {} Tryz.checked os 3 .any (Rows.auditReadsSpec.pre6 enc Tryz.prog Tryz.f3 Rows.auditReadsRow.domain false) (Rows.auditReadsSpec.post enc Tryz.prog Tryz.f3 false true false false) := by
  refine lift_law_n (N := 50) (C := Tryz.checked) (tb := 4) own started (by kernel_rfl) Tryz.func3
    (ChangeSpec.witness6 (enc := enc) (C := Tryz.checked) false ⟨#[], #[.slice none 0 0], []⟩ 8 (by kernel_rfl) (by kernel_rfl) (by kernel_rfl) (by kernel_rfl)) rfl ?_ laidOut (by kernel_rfl) (by kernel_rfl) rfl Tryz.underlying4 ?_
  · intro ds hds
    match ds, hds with
    | [d0], _ => rfl
  · intro vs hvs
    obtain ⟨v0, r0, rfl, hv0, hr0⟩ := shAll_cons (t := 22) (ts := []) hvs
    obtain rfl := shAll_nil hr0
    obtain ⟨ta, la, rfl⟩ := sh_posts (n := 43) hv0
    exact auditReads_c rfl

theorem over : Rows.auditReadsRow.holds Tryz.pinned (OpenSpec.ofChange Rows.auditReadsSpec) :=
  OpenClaim.holds_of_wide 3 Tryz.f3 rfl rfl rfl rfl rfl rfl rfl ⟨rfl, rfl, rfl, rfl, rfl⟩ rfl rfl rfl rfl rfl (by kernel_rfl) Tryz.func3 (by kernel_rfl)
    (of_decide_eq_true (by kernel_rfl)) (by unfold Func.isWrapper; first | (rw [if_pos (by decide +kernel)]; kernel_rfl) | (rw [if_neg (by decide +kernel)]; exact ⟨rfl, rfl⟩))
    (fun os started H enc _ => lifted os started H enc)
theorem proved : Rows.AuditReadsSaid := over
#print axioms proved
end Go.Proofs.YtjofgcfmfecanaaGreat.AuditReadsLaw

