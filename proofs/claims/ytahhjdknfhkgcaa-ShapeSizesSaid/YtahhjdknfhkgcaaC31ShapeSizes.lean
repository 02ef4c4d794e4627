import Derived.Test.YtahhjdknfhkgcaaRows
import Derived.Test.YtahhjdknfhkgcaaG7
import Derived.Test.YtahhjdknfhkgcaaG13

set_option linter.unusedSimpArgs false
set_option linter.unusedVariables false

/- The law ShapeSizes returns true at every input, and its arguments read behind the call as they did before; no condition beyond those that the given statement itself names. -/
namespace Go.Proofs.Ytahhjdknfhkgcaa.ShapeSizesLaw
open Go.Aff Go.Aff.L10
set_option linter.unusedVariables false

theorem own : ownKnob Try.prog.godebug = none := by kernel_rfl
theorem laidOut : laidOutB Try.prog = true := by kernel_rfl

set_option maxRecDepth 100000 in
theorem lifted (os : Os) (started : os.Started) (H : Type) (enc : TypeId × Value → H) :
    ReturnsInHanded {} Try.checked os 7 .any (Rows.shapeSizesSpec.pre6 enc Try.prog Try.f7 Rows.shapeSizesRow.domain false) (Rows.shapeSizesSpec.post enc Try.prog Try.f7 false true false false) := by
  refine lift_law_n (N := 50) (C := Try.checked) (tb := 4) own started (by kernel_rfl) Try.func7
    (ChangeSpec.witness6 (enc := enc) (C := Try.checked) false ⟨#[], #[.agg #[.int .i64 0, .int .i64 0, .int .i64 0, .int .i64 0, .int .i64 0, .int .i64 0, .int .i64 0, .string ByteArray.empty, .int .u8 0, .int .u8 0, .int .u8 0, .int .u8 0, .int .u8 0, .int .u8 0, .int .u8 0, .int .u8 0, .int .u8 0, .int .u8 0, .int .u8 0, .int .u8 0, .int .u8 0, .int .u8 0, .int .u8 0, .int .u8 0, .int .u8 0, .int .u8 0, .int .u8 0, .int .u8 0, .int .u8 0, .int .u8 0, .int .u8 0, .int .u8 0, .int .u8 0, .int .u8 0, .int .u8 0, .int .u8 0, .int .u8 0, .int .u8 0, .int .u8 0, .int .u8 0, .int .u8 0, .int .u8 0, .int .u8 0, .int .u8 0, .int .u8 0, .int .u8 0, .int .u8 0, .int .u8 0, .int .u8 0, .int .u8 0, .int .u8 0, .int .u8 0, .int .u8 0, .int .u8 0, .int .u8 0, .int .u8 0, .int .u8 0, .int .u8 0, .int .u8 0, .int .u8 0, .int .u8 0, .int .u8 0, .int .u8 0, .int .u8 0, .int .u8 0, .int .u8 0, .int .u8 0, .int .u8 0, .int .u8 0, .int .u8 0, .int .u8 0, .int .u8 0, .slice none 0 0]], []⟩ 8 (by kernel_rfl) (by kernel_rfl) (by kernel_rfl) (by kernel_rfl)) rfl ?_ laidOut (by kernel_rfl) (by kernel_rfl) rfl Try.underlying4 ?_
  · intro ds hds
    match ds, hds with
    | [d0], _ => rfl
  · intro vs hvs
    obtain ⟨v0, r0, rfl, hv0, hr0⟩ := shAll_cons (t := 81) (ts := []) hvs
    obtain rfl := shAll_nil hr0
    obtain ⟨t, q, rfl, h1, h2, h3, h4, h5, h6⟩ := sh_six hv0
    exact shapeSizes_c h1 h2 h3 h4 h5 h6 rfl

theorem over : Rows.shapeSizesRow.holds Try.pinned (OpenSpec.ofChange Rows.shapeSizesSpec) :=
  OpenClaim.holds_of_wide 7 Try.f7 rfl rfl rfl rfl rfl rfl rfl ⟨rfl, rfl, rfl, rfl, rfl⟩ rfl rfl rfl rfl rfl (by kernel_rfl) Try.func7 (by kernel_rfl)
    (of_decide_eq_true (by kernel_rfl)) (by unfold Func.isWrapper; first | (rw [if_pos (by decide +kernel)]; kernel_rfl) | (rw [if_neg (by decide +kernel)]; exact ⟨rfl, rfl⟩))
    (fun os started H enc _ => lifted os started H enc)
theorem proved : Rows.ShapeSizesSaid := over
#print axioms proved
end Go.Proofs.Ytahhjdknfhkgcaa.ShapeSizesLaw

