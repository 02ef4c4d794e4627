import Derived.Test.YtipnjeciaagabaaRows
import Derived.Test.YtipnjeciaagabaaG16
import Derived.Test.YtipnjeciaagabaaG38

set_option linter.unusedSimpArgs false
set_option linter.unusedVariables false

/- The law OfflineDoes returns true at every input, and its arguments read behind the call as they did before; no condition beyond those that the given statement itself names. -/
namespace Go.Proofs.Ytipnjeciaagabaa.OfflineDoesLaw
open Go.Aff Go.Aff.L10
set_option linter.unusedVariables false

theorem own : ownKnob Try.prog.godebug = none := by kernel_rfl
theorem laidOut : laidOutB Try.prog = true := by kernel_rfl

set_option maxRecDepth 100000 in
theorem lifted (os : Os) (started : os.Started) (H : Type) (enc : TypeId × Value → H) :
    ReturnsInHanded {} Try.checked os 4 .any (Rows.offlineDoesSpec.pre6 enc Try.prog Try.f4 Rows.offlineDoesRow.domain false) (Rows.offlineDoesSpec.post enc Try.prog Try.f4 false true false false) := by
  refine lift_law_n (N := 51) (C := Try.checked) (tb := 4) own started (by kernel_rfl) Try.func4
    (ChangeSpec.witness6 (enc := enc) (C := Try.checked) false ⟨#[], #[.int .i64 0, .slice none 0 0], []⟩ 8 (by kernel_rfl) (by kernel_rfl) (by kernel_rfl) (by kernel_rfl)) rfl ?_ laidOut (by kernel_rfl) (by kernel_rfl) rfl Try.underlying4 ?_
  · intro ds hds
    match ds, hds with
    | [d0, d1], _ => rfl
  · intro vs hvs
    obtain ⟨v0, r0, rfl, hv0, hr0⟩ := shAll_cons (t := 3) (ts := [22]) hvs
    obtain ⟨v1, r1, rfl, hv1, hr1⟩ := shAll_cons (t := 22) (ts := []) hr0
    obtain rfl := shAll_nil hr1
    obtain ⟨c, rfl, _, _⟩ := sh_int (t := 3) Try.underlying3 hv0
    obtain ⟨ta, la, rfl, ha⟩ := sh_asks hv1
    exact offlineDoes_d ha rfl

theorem over : Rows.offlineDoesRow.holds Try.pinned (OpenSpec.ofChange Rows.offlineDoesSpec) :=
  OpenClaim.holds_of_wide 4 Try.f4 rfl rfl rfl rfl rfl rfl rfl ⟨rfl, rfl, rfl, rfl, rfl⟩ rfl rfl rfl rfl rfl (by kernel_rfl) Try.func4 (by kernel_rfl)
    (of_decide_eq_true (by kernel_rfl)) (by unfold Func.isWrapper; first | (rw [if_pos (by decide +kernel)]; kernel_rfl) | (rw [if_neg (by decide +kernel)]; exact ⟨rfl, rfl⟩))
    (fun os started H enc _ => lifted os started H enc)
theorem proved : Rows.OfflineDoesSaid := over
#print axioms proved
end Go.Proofs.Ytipnjeciaagabaa.OfflineDoesLaw

