import Derived.Test.YtahhjdknfhkgcaaRows
import Derived.Test.YtahhjdknfhkgcaaG7
import Derived.Test.YtahhjdknfhkgcaaG14

set_option linter.unusedSimpArgs false
set_option linter.unusedVariables false

/- The law ShapeBlind returns true at every input, and its arguments read behind the call as they did before; no condition beyond those that the given statement itself names. -/
namespace Go.Proofs.Ytahhjdknfhkgcaa.ShapeBlindLaw
open Go.Aff Go.Aff.L10
set_option linter.unusedVariables false

theorem own : ownKnob Try.prog.godebug = none := by kernel_rfl
theorem laidOut : laidOutB Try.prog = true := by kernel_rfl

set_option maxRecDepth 100000 in
theorem lifted (os : Os) (started : os.Started) (H : Type) (enc : TypeId × Value → H) :
    ReturnsInHanded {} Try.checked os 5 .any (Rows.shapeBlindSpec.pre6 enc Try.prog Try.f5 Rows.shapeBlindRow.domain false) (Rows.shapeBlindSpec.post enc Try.prog Try.f5 false true false false) := by
  refine lift_law_n (N := 50) (C := Try.checked) (tb := 4) own started (by kernel_rfl) Try.func5
    (ChangeSpec.witness6 (enc := enc) (C := Try.checked) false ⟨#[], #[.agg #[.int .i64 0, .int .i64 0, .slice none 0 0, .slice none 0 0, .int .i64 0, .int .i64 0, .int .i64 0]], []⟩ 8 (by kernel_rfl) (by kernel_rfl) (by kernel_rfl) (by kernel_rfl)) rfl ?_ laidOut (by kernel_rfl) (by kernel_rfl) rfl Try.underlying4 ?_
  · intro ds hds
    match ds, hds with
    | [d0], _ => rfl
  · intro vs hvs
    obtain ⟨v0, r0, rfl, hv0, hr0⟩ := shAll_cons (t := 26) (ts := []) hvs
    obtain rfl := shAll_nil hr0
    obtain ⟨t, u, x, rfl, h1, h2⟩ := sh_trn hv0
    exact shapeBlind_c h1 h2 rfl

theorem over : Rows.shapeBlindRow.holds Try.pinned (OpenSpec.ofChange Rows.shapeBlindSpec) :=
  OpenClaim.holds_of_wide 5 Try.f5 rfl rfl rfl rfl rfl rfl rfl ⟨rfl, rfl, rfl, rfl, rfl⟩ rfl rfl rfl rfl rfl (by kernel_rfl) Try.func5 (by kernel_rfl)
    (of_decide_eq_true (by kernel_rfl)) (by unfold Func.isWrapper; first | (rw [if_pos (by decide +kernel)]; kernel_rfl) | (rw [if_neg (by decide +kernel)]; exact ⟨rfl, rfl⟩))
    (fun os started H enc _ => lifted os started H enc)
theorem proved : Rows.ShapeBlindSaid := over
#print axioms proved
end Go.Proofs.Ytahhjdknfhkgcaa.ShapeBlindLaw

