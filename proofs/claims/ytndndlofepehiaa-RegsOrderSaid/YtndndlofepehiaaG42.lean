import Derived.Test.YtndndlofepehiaaG39
import Derived.Test.YtndndlofepehiaaG41

set_option linter.unusedSimpArgs false
set_option linter.unusedVariables false

/- Layer 12: the law RegsOrder, of arguments' shapes. -/
namespace Go.Aff.L10
open Go.Proofs Go.Aff Go.Aff.L01 Classical
set_option linter.unusedVariables false
theorem regsOrder_d {σ : AST} {K : AV → AST → Prop} {la : List AV} {ta : Tk} {m : Int} (hm0 : 0 ≤ m) (hm1 : m ≤ 255) (ha : ∀ v ∈ la, IsAct v) (hK : K (.bool true) σ) : TCalls Try.prog 4 [.int .u8 m, .slice ta la] σ K :=
  TCalls.drop (regsOrder_c hm0 hm1 ha fun s hx => ⟨hx, rfl, by simpa [AV.strip] using hK⟩)
end Go.Aff.L10

