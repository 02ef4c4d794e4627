/- The law LayBack returns true at every input, and its arguments read behind the call as they did before; no condition beyond those that the given statement itself names. -/
import Derived.Test.YtfomojflekepoaaRows
import Derived.Test.YtfomojflekepoaaAffU
import Derived.Test.YtfomojflekepoaaW01m
namespace Go.Proofs.Ytfomojflekepoaa.LayBackLaw
open Go.Aff Go.Aff.L01
set_option linter.unusedVariables false

theorem own : ownKnob Try.prog.godebug = none := by kernel_rfl
theorem laidOut : laidOutB Try.prog = true := by kernel_rfl

set_option maxRecDepth 100000 in
theorem lifted (os : Os) (started : os.Started) (H : Type) (enc : TypeId × Value → H) :
    ReturnsInHanded {} Try.checked os 7 .any (Rows.layBackSpec.pre6 enc Try.prog Try.f7 Rows.layBackRow.domain false) (Rows.layBackSpec.post enc Try.prog Try.f7 false true false false) := by
  refine lift_law (C := Try.checked) (tb := 4) own started (by kernel_rfl) Try.func7
    (ChangeSpec.witness6 (enc := enc) (C := Try.checked) false ⟨#[], #[.agg #[.string ByteArray.empty, .string ByteArray.empty, .int .i64 0, .string ByteArray.empty, .slice none 0 0, .slice none 0 0]], []⟩ 8 (by kernel_rfl) (by kernel_rfl) (by kernel_rfl) (by kernel_rfl)) rfl ?_ laidOut (by kernel_rfl) (by kernel_rfl) rfl Try.underlying4 ?_
  · intro ds hds
    match ds, hds with
    | [d0], _ => rfl
  · intro vs hvs
    obtain ⟨v0, r0, rfl, hv0, hr0⟩ := shAll_cons (t := 49) (ts := []) hvs
    obtain rfl := shAll_nil hr0
    obtain ⟨ps, rfl, hps⟩ := sh_struct (n := 11) Try.underlying49 hv0
    obtain ⟨p0, r, rfl, h0, hps⟩ := shTs_cons (n := 10) hps
    obtain ⟨p1, r, rfl, h1, hps⟩ := shTs_cons (n := 9) hps
    obtain ⟨p2, r, rfl, h2, hps⟩ := shTs_cons (n := 8) hps
    obtain ⟨p3, r, rfl, h3, hps⟩ := shTs_cons (n := 7) hps
    obtain ⟨p4, r, rfl, h4, hps⟩ := shTs_cons (n := 6) hps
    obtain ⟨p5, r, rfl, h5, hps⟩ := shTs_cons (n := 5) hps
    obtain rfl := shTs_nil hps
    obtain ⟨A, rfl⟩ := sh_str (n := 9) (t := 9) Try.underlying9 h0
    obtain ⟨B, rfl⟩ := sh_str (n := 8) (t := 9) Try.underlying9 h1
    obtain ⟨n, rfl, hn0, hn1⟩ := sh_int (n := 7) (t := 3) Try.underlying3 h2
    obtain ⟨s, rfl⟩ := sh_str (n := 6) (t := 9) Try.underlying9 h3
    obtain ⟨tk4, xs4, rfl, e4⟩ := sh_slice (n := 5) (t := 25) Try.underlying25 h4
    obtain ⟨l, rfl, hl⟩ := map_of (f := AV.int .i64) (p := fun i => -9223372036854775808 ≤ i ∧ i ≤ 9223372036854775807) (fun x hx => by obtain ⟨i, rfl, a, b⟩ := sh_int (n := 4) (t := 3) Try.underlying3 (e4 x hx); exact ⟨i, rfl, i64_range a b⟩)
    obtain ⟨tk5, xs5, rfl, e5⟩ := sh_slice (n := 4) (t := 26) Try.underlying26 h5
    obtain ⟨t, rfl, _⟩ := map_of (f := AV.str) (p := fun _ => True) (fun x hx => by obtain ⟨s, rfl⟩ := sh_str (n := 3) (t := 9) Try.underlying9 (e5 x hx); exact ⟨s, rfl, trivial⟩)
    exact layBack_c (i64_range hn0 hn1) hl rfl

theorem over : Rows.layBackRow.holds Try.pinned (OpenSpec.ofChange Rows.layBackSpec) :=
  OpenClaim.holds_of_wide 7 Try.f7 rfl rfl rfl rfl rfl rfl rfl ⟨rfl, rfl, rfl, rfl, rfl⟩ rfl rfl rfl rfl rfl (by kernel_rfl) Try.func7 (by kernel_rfl)
    (of_decide_eq_true (by kernel_rfl)) (by unfold Func.isWrapper; first | (rw [if_pos (by decide +kernel)]; kernel_rfl) | (rw [if_neg (by decide +kernel)]; exact ⟨rfl, rfl⟩))
    (fun os started H enc _ => lifted os started H enc)
theorem proved : Rows.LayBackSaid := over
#print axioms proved
end Go.Proofs.Ytfomojflekepoaa.LayBackLaw
