/- The law LayApart returns true at every input, and its arguments read behind the call as they did before; no condition beyond those that the given statement itself names. -/
import Derived.Test.YtfomojflekepoaaRows
import Derived.Test.YtfomojflekepoaaAffU
import Derived.Test.YtfomojflekepoaaW01h
namespace Go.Proofs.Ytfomojflekepoaa.LayApartLaw
open Go.Aff Go.Aff.L01
set_option linter.unusedVariables false

theorem own : ownKnob Try.prog.godebug = none := by kernel_rfl
theorem laidOut : laidOutB Try.prog = true := by kernel_rfl

set_option maxRecDepth 100000 in
theorem lifted (os : Os) (started : os.Started) (H : Type) (enc : TypeId × Value → H) :
    ReturnsInHanded {} Try.checked os 5 .any (Rows.layApartSpec.pre6 enc Try.prog Try.f5 Rows.layApartRow.domain false) (Rows.layApartSpec.post enc Try.prog Try.f5 false true false false) := by
  refine lift_law (C := Try.checked) (tb := 4) own started (by kernel_rfl) Try.func5
    (ChangeSpec.witness6 (enc := enc) (C := Try.checked) false ⟨#[], #[.agg #[.int .i64 0, .int .i64 0, .string ByteArray.empty, .string ByteArray.empty]], []⟩ 8 (by kernel_rfl) (by kernel_rfl) (by kernel_rfl) (by kernel_rfl)) rfl ?_ laidOut (by kernel_rfl) (by kernel_rfl) rfl Try.underlying4 ?_
  · intro ds hds
    match ds, hds with
    | [d0], _ => rfl
  · intro vs hvs
    obtain ⟨v0, r0, rfl, hv0, hr0⟩ := shAll_cons (t := 34) (ts := []) hvs
    obtain rfl := shAll_nil hr0
    obtain ⟨ps, rfl, hps⟩ := sh_struct (n := 11) Try.underlying34 hv0
    obtain ⟨p0, r, rfl, h0, hps⟩ := shTs_cons (n := 10) hps
    obtain ⟨p1, r, rfl, h1, hps⟩ := shTs_cons (n := 9) hps
    obtain ⟨p2, r, rfl, h2, hps⟩ := shTs_cons (n := 8) hps
    obtain ⟨p3, r, rfl, h3, hps⟩ := shTs_cons (n := 7) hps
    obtain rfl := shTs_nil hps
    obtain ⟨a, rfl, ha0, ha1⟩ := sh_int (n := 9) (t := 3) Try.underlying3 h0
    obtain ⟨b, rfl, hb0, hb1⟩ := sh_int (n := 8) (t := 3) Try.underlying3 h1
    obtain ⟨s, rfl⟩ := sh_str (n := 7) (t := 9) Try.underlying9 h2
    obtain ⟨t, rfl⟩ := sh_str (n := 6) (t := 9) Try.underlying9 h3
    exact layApart_c (i64_range ha0 ha1) (i64_range hb0 hb1) rfl

theorem over : Rows.layApartRow.holds Try.pinned (OpenSpec.ofChange Rows.layApartSpec) :=
  OpenClaim.holds_of_wide 5 Try.f5 rfl rfl rfl rfl rfl rfl rfl ⟨rfl, rfl, rfl, rfl, rfl⟩ rfl rfl rfl rfl rfl (by kernel_rfl) Try.func5 (by kernel_rfl)
    (of_decide_eq_true (by kernel_rfl)) (by unfold Func.isWrapper; first | (rw [if_pos (by decide +kernel)]; kernel_rfl) | (rw [if_neg (by decide +kernel)]; exact ⟨rfl, rfl⟩))
    (fun os started H enc _ => lifted os started H enc)
theorem proved : Rows.LayApartSaid := over
#print axioms proved
end Go.Proofs.Ytfomojflekepoaa.LayApartLaw
