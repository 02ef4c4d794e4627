/- The law HistCounts returns true at every input, and its arguments read behind the call as they did before; no condition beyond those that the given statement itself names. -/
import Derived.Test.YtnoopjlfcdmdfaaRows
import Derived.Test.YtnoopjlfcdmdfaaAffU
import Derived.Test.YtnoopjlfcdmdfaaW09g
namespace Go.Proofs.Ytnoopjlfcdmdfaa.HistCountsLaw
open Go.Aff Go.Aff.L09
set_option linter.unusedVariables false

theorem own : ownKnob Try.prog.godebug = none := by kernel_rfl
theorem laidOut : laidOutB Try.prog = true := by kernel_rfl

set_option maxRecDepth 100000 in
theorem lifted (os : Os) (started : os.Started) (H : Type) (enc : TypeId × Value → H) :
    ReturnsInHanded {} Try.checked os 3 .any (Rows.histCountsSpec.pre6 enc Try.prog Try.f3 Rows.histCountsRow.domain false) (Rows.histCountsSpec.post enc Try.prog Try.f3 false true false false) := by
  refine lift_law (C := Try.checked) (tb := 4) own started (by kernel_rfl) Try.func3
    (ChangeSpec.witness6 (enc := enc) (C := Try.checked) false ⟨#[], #[.agg #[.string ByteArray.empty, .int .i64 0, .int .i64 0, .int .i64 0]], []⟩ 8 (by kernel_rfl) (by kernel_rfl) (by kernel_rfl) (by kernel_rfl)) rfl ?_ laidOut (by kernel_rfl) (by kernel_rfl) rfl Try.underlying4 ?_
  · intro ds hds
    match ds, hds with
    | [d0], _ => rfl
  · intro vs hvs
    obtain ⟨v0, r0, rfl, hv0, hr0⟩ := shAll_cons (t := 23) (ts := []) hvs
    obtain rfl := shAll_nil hr0
    obtain ⟨ps, rfl, hps⟩ := sh_struct (n := 11) Try.underlying23 hv0
    obtain ⟨p0, r, rfl, h0, hps⟩ := shTs_cons (n := 10) hps
    obtain ⟨p1, r, rfl, h1, hps⟩ := shTs_cons (n := 9) hps
    obtain ⟨p2, r, rfl, h2, hps⟩ := shTs_cons (n := 8) hps
    obtain ⟨p3, r, rfl, h3, hps⟩ := shTs_cons (n := 7) hps
    obtain rfl := shTs_nil hps
    obtain ⟨h, rfl⟩ := sh_str (n := 9) (t := 9) Try.underlying9 h0
    obtain ⟨n, rfl, hn0, hn1⟩ := sh_int (n := 8) (t := 3) Try.underlying3 h1
    obtain ⟨c, rfl, hc0, hc1⟩ := sh_int (n := 7) (t := 3) Try.underlying3 h2
    obtain ⟨k, rfl, hk0, hk1⟩ := sh_int (n := 6) (t := 3) Try.underlying3 h3
    exact histCounts_c (i64_range hn0 hn1).1 (i64_range hn0 hn1).2 rfl

theorem over : Rows.histCountsRow.holds Try.pinned (OpenSpec.ofChange Rows.histCountsSpec) :=
  OpenClaim.holds_of_wide 3 Try.f3 rfl rfl rfl rfl rfl rfl rfl ⟨rfl, rfl, rfl, rfl, rfl⟩ rfl rfl rfl rfl rfl (by kernel_rfl) Try.func3 (by kernel_rfl)
    (of_decide_eq_true (by kernel_rfl)) (by unfold Func.isWrapper; first | (rw [if_pos (by decide +kernel)]; kernel_rfl) | (rw [if_neg (by decide +kernel)]; exact ⟨rfl, rfl⟩))
    (fun os started H enc _ => lifted os started H enc)
theorem proved : Rows.HistCountsSaid := over
#print axioms proved
end Go.Proofs.Ytnoopjlfcdmdfaa.HistCountsLaw
