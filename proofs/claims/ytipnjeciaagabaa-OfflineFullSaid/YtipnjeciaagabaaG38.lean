import Derived.Test.YtipnjeciaagabaaG37

set_option linter.unusedSimpArgs false
set_option linter.unusedVariables false

/- Layer 27: the laws, of arguments' shapes. -/
namespace Go.Aff.L10
open Go.Proofs Go.Aff Go.Aff.L01 Classical
set_option linter.unusedVariables false
set_option maxRecDepth 20000
theorem sh_asks {v : AV} (h : ShT Try.prog 51 22 v) : ∃ tk la, v = .slice tk la ∧ ∀ v ∈ la, IsAsk v := by
  obtain ⟨tk, xs, rfl, e⟩ := sh_slice (n := 50) (t := 22) Try.underlying22 h
  exact ⟨tk, xs, rfl, fun v hv => sh_ask (e v hv)⟩
variable {σ : AST} {K : AV → AST → Prop} {la : List AV} {ta : Tk}
theorem offlineDoes_d {c : Int} (ha : ∀ v ∈ la, IsAsk v) (hK : K (.bool true) σ) : TCalls Try.prog 4 [.int .i64 c, .slice ta la] σ K :=
  TCalls.drop (offlineDoes_c ha fun s hx => ⟨hx, rfl, by simpa [AV.strip] using hK⟩)
theorem offlineSent_d (ha : ∀ v ∈ la, IsAsk v) (hK : K (.bool true) σ) : TCalls Try.prog 5 [.slice ta la] σ K :=
  TCalls.drop (offlineSent_c ha fun s hx => ⟨hx, rfl, by simpa [AV.strip] using hK⟩)
theorem offlineOrder_d {m : Int} (hm0 : 0 ≤ m) (hm1 : m ≤ 255) (ha : ∀ v ∈ la, IsAsk v) (hK : K (.bool true) σ) : TCalls Try.prog 3 [.slice ta la, .int .u8 m] σ K :=
  TCalls.drop (offlineOrder_c hm0 hm1 ha fun s hx => ⟨hx, rfl, by simpa [AV.strip] using hK⟩)
theorem offlineFull_d {m : Int} (hm0 : 0 ≤ m) (hm1 : m ≤ 255) {a : Ask} {t u : Tk} (hK : K (.bool true) σ) : TCalls Try.prog 6 [.int .u8 m, askV t u a] σ K :=
  TCalls.drop (offlineFull_c hm0 hm1 fun s hx => ⟨hx, rfl, by simpa [AV.strip] using hK⟩)
end Go.Aff.L10

