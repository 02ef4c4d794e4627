/- Layer 1, walked: LayReads. -/
import Derived.Test.YtfomojflekepoaaW01r
import Derived.Test.YtfomojflekepoaaW01k
import Derived.Test.YtfomojflekepoaaW01f
namespace Go.Aff.L01
open Go.Proofs Go.Aff
set_option linter.unusedVariables false
set_option linter.unusedSimpArgs false
attribute [local go_sem] Try.underlying3 Try.underlying4 Try.underlying5 Try.underlying9 Try.underlying51 Try.underlying53 Try.underlying27 Try.underlying25 Try.underlying26 fits3 fits9

theorem layReads_c {s : List UInt8} {i : Int} (hi0 : -9223372036854775808 ≤ i) (hi1 : i ≤ 9223372036854775807) {σ : AST} {K : AV → AST → Prop} (hK : K (.bool true) σ) : TCalls Try.prog 6 [.str s, .int .i64 i] σ K := by
  refine tcalls_walk Try.f6 _ [.tmp 4] Try.func6 rfl rfl rfl mixed (Nat.le_of_ble_eq_true rfl) rfl fun hlen => ?_
  have hsl : ∀ {α : Type} (f : α → AV) (l : List α), (if l = [] then AV.slice .full [] else AV.slice .none (l.map f)) = AV.slice (if l = [] then .full else .none) (l.map f) := by intro α f l; split <;> simp_all
  simp -dsimp only [↓reduceIte, go_sem]
  refine readNumber_c hi0 hi1 ?_
  rcases hr : numR s i with ⟨a, p, e⟩
  simp only [tup3]
  simp -dsimp only [↓reduceIte, go_sem]
  refine ReadNumber_c hi0 hi1 ?_
  rw [hr]
  simp only [tup3]
  simp -dsimp only [↓reduceIte, go_sem]
  refine awake_c ?_
  simp -dsimp only [↓reduceIte, go_sem]
  refine readText_c hi0 hi1 ?_
  rcases hr2 : textR s i with ⟨a2, p2, e2⟩
  simp only [tupT]
  simp -dsimp only [↓reduceIte, go_sem]
  refine ReadText_c hi0 hi1 ?_
  rw [hr2]
  simp only [tupT]
  simp -dsimp only [↓reduceIte, go_sem]
  refine readNumbers_c hi0 hi1 ?_
  rcases hr3 : readR (numP s) s i with ⟨a3, p3, e3⟩
  simp only [tupL]
  rw [hsl]
  simp -dsimp only [↓reduceIte, go_sem]
  refine ReadNumbers_c hi0 hi1 ?_
  rw [hr3]
  simp only [tupL]
  rw [hsl]
  simp -dsimp only [↓reduceIte, go_sem]
  refine ints_c ?_
  rw [decide_eq_true rfl]
  simp -dsimp only [↓reduceIte, go_sem]
  refine readTexts_c hi0 hi1 ?_
  rcases hr4 : readR (textP s) s i with ⟨a4, p4, e4⟩
  simp only [tupL]
  rw [hsl]
  simp -dsimp only [↓reduceIte, go_sem]
  refine ReadTexts_c hi0 hi1 ?_
  rw [hr4]
  simp only [tupL]
  rw [hsl]
  simp -dsimp only [↓reduceIte, go_sem]
  refine same_c ?_
  rw [decide_eq_true rfl]
  simp -dsimp only [↓reduceIte, go_sem]
  exact hK
end Go.Aff.L01
