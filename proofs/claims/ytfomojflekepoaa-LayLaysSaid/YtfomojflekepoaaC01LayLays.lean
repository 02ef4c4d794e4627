/- The law LayLays returns true at every input, and its arguments read behind the call as they did before; no condition beyond those that the given statement itself names. -/
import Derived.Test.YtfomojflekepoaaRows
import Derived.Test.YtfomojflekepoaaAffU
import Derived.Test.YtfomojflekepoaaW01t
namespace Go.Proofs.Ytfomojflekepoaa.LayLaysLaw
open Go.Aff Go.Aff.L01
set_option linter.unusedVariables false

theorem own : ownKnob Try.prog.godebug = none := by kernel_rfl
theorem laidOut : laidOutB Try.prog = true := by kernel_rfl

set_option maxRecDepth 100000 in
theorem lifted (os : Os) (started : os.Started) (H : Type) (enc : TypeId × Value → H) :
    ReturnsInHanded {} Try.checked os 4 .any (Rows.layLaysSpec.pre6 enc Try.prog Try.f4 Rows.layLaysRow.domain false) (Rows.layLaysSpec.post enc Try.prog Try.f4 false true false false) := by
  refine lift_law (C := Try.checked) (tb := 4) own started (by kernel_rfl) Try.func4
    (ChangeSpec.witness6 (enc := enc) (C := Try.checked) false ⟨#[], #[.string ByteArray.empty, .slice none 0 0, .slice none 0 0], []⟩ 8 (by kernel_rfl) (by kernel_rfl) (by kernel_rfl) (by kernel_rfl)) rfl ?_ laidOut (by kernel_rfl) (by kernel_rfl) rfl Try.underlying4 ?_
  · intro ds hds
    match ds, hds with
    | [d0, d1, d2], _ => rfl
  · intro vs hvs
    obtain ⟨v0, r0, rfl, hv0, hr0⟩ := shAll_cons (t := 9) (ts := [25, 26]) hvs
    obtain ⟨v1, r1, rfl, hv1, hr1⟩ := shAll_cons (t := 25) (ts := [26]) hr0
    obtain ⟨v2, r2, rfl, hv2, hr2⟩ := shAll_cons (t := 26) (ts := []) hr1
    obtain rfl := shAll_nil hr2
    obtain ⟨s, rfl⟩ := sh_str (n := 11) (t := 9) Try.underlying9 hv0
    obtain ⟨tk1, xs1, rfl, e1⟩ := sh_slice (n := 11) (t := 25) Try.underlying25 hv1
    obtain ⟨n, rfl, hn⟩ := map_of (f := AV.int .i64) (p := fun i => -9223372036854775808 ≤ i ∧ i ≤ 9223372036854775807) (fun x hx => by obtain ⟨i, rfl, a, b⟩ := sh_int (n := 10) (t := 3) Try.underlying3 (e1 x hx); exact ⟨i, rfl, i64_range a b⟩)
    obtain ⟨tk2, xs2, rfl, e2⟩ := sh_slice (n := 11) (t := 26) Try.underlying26 hv2
    obtain ⟨t, rfl, _⟩ := map_of (f := AV.str) (p := fun _ => True) (fun x hx => by obtain ⟨s, rfl⟩ := sh_str (n := 10) (t := 9) Try.underlying9 (e2 x hx); exact ⟨s, rfl, trivial⟩)
    exact layLays_c hn rfl

theorem over : Rows.layLaysRow.holds Try.pinned (OpenSpec.ofChange Rows.layLaysSpec) :=
  OpenClaim.holds_of_wide 4 Try.f4 rfl rfl rfl rfl rfl rfl rfl ⟨rfl, rfl, rfl, rfl, rfl⟩ rfl rfl rfl rfl rfl (by kernel_rfl) Try.func4 (by kernel_rfl)
    (of_decide_eq_true (by kernel_rfl)) (by unfold Func.isWrapper; first | (rw [if_pos (by decide +kernel)]; kernel_rfl) | (rw [if_neg (by decide +kernel)]; exact ⟨rfl, rfl⟩))
    (fun os started H enc _ => lifted os started H enc)
theorem proved : Rows.LayLaysSaid := over
#print axioms proved
end Go.Proofs.Ytfomojflekepoaa.LayLaysLaw
