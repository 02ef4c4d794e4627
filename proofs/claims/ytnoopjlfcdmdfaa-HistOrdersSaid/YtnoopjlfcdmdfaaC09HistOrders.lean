/- The law HistOrders returns true at every input, and its arguments read behind the call as they did before; no condition beyond those that the given statement itself names. -/
import Derived.Test.YtnoopjlfcdmdfaaRows
import Derived.Test.YtnoopjlfcdmdfaaAffU
import Derived.Test.YtnoopjlfcdmdfaaW09f
namespace Go.Proofs.Ytnoopjlfcdmdfaa.HistOrdersLaw
open Go.Aff Go.Aff.L09
set_option linter.unusedVariables false

theorem own : ownKnob Try.prog.godebug = none := by kernel_rfl
theorem laidOut : laidOutB Try.prog = true := by kernel_rfl

set_option maxRecDepth 100000 in
theorem lifted (os : Os) (started : os.Started) (H : Type) (enc : TypeId × Value → H) :
    ReturnsInHanded {} Try.checked os 7 .any (Rows.histOrdersSpec.pre6 enc Try.prog Try.f7 Rows.histOrdersRow.domain false) (Rows.histOrdersSpec.post enc Try.prog Try.f7 false true false false) := by
  refine lift_law (C := Try.checked) (tb := 4) own started (by kernel_rfl) Try.func7
    (ChangeSpec.witness6 (enc := enc) (C := Try.checked) false ⟨#[], #[.string ByteArray.empty, .string ByteArray.empty, .string ByteArray.empty], []⟩ 8 (by kernel_rfl) (by kernel_rfl) (by kernel_rfl) (by kernel_rfl)) rfl ?_ laidOut (by kernel_rfl) (by kernel_rfl) rfl Try.underlying4 ?_
  · intro ds hds
    match ds, hds with
    | [d0, d1, d2], _ => rfl
  · intro vs hvs
    obtain ⟨v0, r0, rfl, hv0, hr0⟩ := shAll_cons (t := 9) (ts := [9, 9]) hvs
    obtain ⟨v1, r1, rfl, hv1, hr1⟩ := shAll_cons (t := 9) (ts := [9]) hr0
    obtain ⟨v2, r2, rfl, hv2, hr2⟩ := shAll_cons (t := 9) (ts := []) hr1
    obtain rfl := shAll_nil hr2
    obtain ⟨a, rfl⟩ := sh_str (n := 11) (t := 9) Try.underlying9 hv0
    obtain ⟨b, rfl⟩ := sh_str (n := 11) (t := 9) Try.underlying9 hv1
    obtain ⟨c, rfl⟩ := sh_str (n := 11) (t := 9) Try.underlying9 hv2
    exact histOrders_c rfl

theorem over : Rows.histOrdersRow.holds Try.pinned (OpenSpec.ofChange Rows.histOrdersSpec) :=
  OpenClaim.holds_of_wide 7 Try.f7 rfl rfl rfl rfl rfl rfl rfl ⟨rfl, rfl, rfl, rfl, rfl⟩ rfl rfl rfl rfl rfl (by kernel_rfl) Try.func7 (by kernel_rfl)
    (of_decide_eq_true (by kernel_rfl)) (by unfold Func.isWrapper; first | (rw [if_pos (by decide +kernel)]; kernel_rfl) | (rw [if_neg (by decide +kernel)]; exact ⟨rfl, rfl⟩))
    (fun os started H enc _ => lifted os started H enc)
theorem proved : Rows.HistOrdersSaid := over
#print axioms proved
end Go.Proofs.Ytnoopjlfcdmdfaa.HistOrdersLaw
