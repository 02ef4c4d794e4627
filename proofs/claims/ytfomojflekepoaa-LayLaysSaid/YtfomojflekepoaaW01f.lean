/- Layer 1, walked: awake; LayNumbers. -/
import Derived.Test.YtfomojflekepoaaW01d
import Derived.Test.YtfomojflekepoaaW01e
namespace Go.Aff.L01
open Go.Proofs Go.Aff
set_option linter.unusedVariables false
set_option linter.unusedSimpArgs false
attribute [local go_sem] Try.underlying3 Try.underlying4 Try.underlying5 Try.underlying9 Try.underlying51 Try.underlying53 Try.underlying27 Try.underlying25 Try.underlying26 fits3 fits9

theorem num_m40 : numS (-40) = [45, 52, 48, 59] := by
  unfold numS; rw [show (-40 : Int).natAbs = 40 from rfl, dg_big (by decide), dg_small (by decide)]; rfl
theorem num_1 : numS 1 = [49, 59] := by
  unfold numS; rw [show (1 : Int).natAbs = 1 from rfl, dg_small (by decide)]; rfl
theorem num_2 : numS 2 = [50, 59] := by
  unfold numS; rw [show (2 : Int).natAbs = 2 from rfl, dg_small (by decide)]; rfl
theorem rd_1 : numR [120, 45, 52, 48, 59] 1 = (-40, 5, 0) := by decide +kernel
theorem rd_2 : numR [48, 49, 59] 0 = (0, 0, 6) := by decide +kernel

theorem awake_c {σ : AST} {K : AV → AST → Prop} (hK : K (.bool true) σ) : TCalls Try.prog 9 [] σ K := by
  refine tcalls_walk Try.f9 _ [.tmp 0] Try.func9 rfl rfl rfl mixed (Nat.le_of_ble_eq_true rfl) rfl fun hlen => ?_
  simp -dsimp only [go_sem]
  refine readNumber_c (by decide) (by decide) ?_
  rw [rd_1, tup3_of]
  simp -dsimp only [go_sem]
  refine readNumber_c (by decide) (by decide) ?_
  rw [rd_2, tup3_of]
  simp -dsimp only [go_sem]
  refine build_slice E25 rfl (by decide) ?_ ?_
  · intro v hv
    simp at hv
    rcases hv with rfl | rfl <;> exact ⟨by simp only [go_sem], rfl⟩
  simp -dsimp only [go_sem]
  refine numbers_c (l := [1, 2]) (by decide) ?_
  rw [if_neg (by decide)]
  have : laidAll numS [1, 2] = [40, 49, 59, 50, 59, 41] := by
    simp [laidAll, part, num_1, num_2]
  rw [this]
  simp -dsimp only [go_sem]
  refine number_c (by decide) (by decide) ?_
  rw [num_m40]
  simp -dsimp only [go_sem]
  exact hK

theorem layNumbers_c {n : Int} (h0 : -9223372036854775808 ≤ n) (h1 : n ≤ 9223372036854775807) {σ : AST} {K : AV → AST → Prop} (hK : K (.bool true) σ) : TCalls Try.prog 3 [.int .i64 n] σ K := by
  refine tcalls_walk Try.f3 _ [.tmp 2] Try.func3 rfl rfl rfl mixed (Nat.le_of_ble_eq_true rfl) rfl fun hlen => ?_
  simp -dsimp only [go_sem]
  refine awake_c ?_
  simp -dsimp only [go_sem]
  refine number_c h0 h1 ?_
  simp -dsimp only [go_sem]
  refine Number_c h0 h1 ?_
  simp -dsimp only [go_sem]
  exact hK
end Go.Aff.L01
