import Derived.Test.YtjofgcfmfecanaaRows
import Derived.Test.YtjofgcfmfecanaaG16
import Derived.Test.YtjofgcfmfecanaaG38

set_option linter.unusedSimpArgs false
set_option linter.unusedVariables false

/- The law AuditFits returns true at every input, and its arguments read behind the call as they did before; no condition beyond those that the given statement itself names. -/
namespace Go.Proofs.Ytjofgcfmfecanaa.AuditFitsLaw
open Go.Aff Go.Aff.L10
set_option linter.unusedVariables false

theorem own : ownKnob Try.prog.godebug = none := by kernel_rfl
theorem laidOut : laidOutB Try.prog = true := by kernel_rfl

set_option maxRecDepth 100000 in
theorem lifted (os : Os) (started : os.Started) (H : Type) (enc : TypeId × Value → H) :
    ReturnsInHanded {} Try.checked os 6 .any (Rows.auditFitsSpec.pre6 enc Try.prog Try.f6 Rows.auditFitsRow.domain false) (Rows.auditFitsSpec.post enc Try.prog Try.f6 false true false false) := by
  refine lift_law_n (N := 50) (C := Try.checked) (tb := 4) own started (by kernel_rfl) Try.func6
    (ChangeSpec.witness6 (enc := enc) (C := Try.checked) false ⟨#[], #[.string ByteArray.empty, .slice none 0 0, .int .u8 0], []⟩ 8 (by kernel_rfl) (by kernel_rfl) (by kernel_rfl) (by kernel_rfl)) rfl ?_ laidOut (by kernel_rfl) (by kernel_rfl) rfl Try.underlying4 ?_
  · intro ds hds
    match ds, hds with
    | [d0, d1, d2], _ => rfl
  · intro vs hvs
    obtain ⟨v0, r0, rfl, hv0, hr0⟩ := shAll_cons (t := 9) (ts := [37, 5]) hvs
    obtain ⟨v1, r1, rfl, hv1, hr1⟩ := shAll_cons (t := 37) (ts := [5]) hr0
    obtain ⟨v2, r2, rfl, hv2, hr2⟩ := shAll_cons (t := 5) (ts := []) hr1
    obtain rfl := shAll_nil hr2
    obtain ⟨h, rfl⟩ := sh_str (t := 9) Try.underlying9 hv0
    obtain ⟨ta, cuts, rfl⟩ := sh_bytes (n := 48) hv1
    obtain ⟨o, rfl⟩ := sh_byte (n := 49) hv2
    exact auditFits_c rfl

theorem over : Rows.auditFitsRow.holds Try.pinned (OpenSpec.ofChange Rows.auditFitsSpec) :=
  OpenClaim.holds_of_wide 6 Try.f6 rfl rfl rfl rfl rfl rfl rfl ⟨rfl, rfl, rfl, rfl, rfl⟩ rfl rfl rfl rfl rfl (by kernel_rfl) Try.func6 (by kernel_rfl)
    (of_decide_eq_true (by kernel_rfl)) (by unfold Func.isWrapper; first | (rw [if_pos (by decide +kernel)]; kernel_rfl) | (rw [if_neg (by decide +kernel)]; exact ⟨rfl, rfl⟩))
    (fun os started H enc _ => lifted os started H enc)
theorem proved : Rows.AuditFitsSaid := over
#print axioms proved
end Go.Proofs.Ytjofgcfmfecanaa.AuditFitsLaw

