/- Layer 9, walked: forks; awake. -/
import Derived.Test.YtnoopjlfcdmdfaaW09d
namespace Go.Aff.L09
open Go.Proofs Go.Aff
set_option linter.unusedVariables false
set_option linter.unusedSimpArgs false
attribute [local go_sem] Try.underlying3 Try.underlying4 Try.underlying5 Try.underlying9 Try.underlying33 fits3 fits9
theorem E33 : ElemT Try.prog 33 9 1 16 := ⟨rfl, by kernel_rfl, by kernel_rfl, ⟨.str [], ⟨_, _, rfl, rfl, rfl, rfl, rfl⟩⟩, by decide⟩

theorem sizes_str {l : List (List UInt8)} : ∀ v ∈ l.map AV.str, v.size = 1 := by
  intro v hv; obtain ⟨s, _, rfl⟩ := List.mem_map.1 hv; simp [AV.size]

theorem fork_c {l : List (List UInt8)} {tk0 : Tk} {σ : AST} {K : AV → AST → Prop} (hK : ∀ a b, ForkP l a b → K (.tuple [.int .i64 a, .int .i64 b]) σ) : TCalls Try.prog 19 [.slice tk0 (l.map AV.str)] σ K := by
  refine tcalls_walk Try.f19 _ [.tmp 2, .tmp 3] Try.func19 rfl rfl rfl mixed (Nat.le_of_ble_eq_true rfl) rfl fun hlen => ?_
  have hs : l.length ≤ 9223372036854775807 := by
    have := hlen (.slice tk0 (l.map AV.str)) (by simp)
    simp only [lenOk, List.length_map, maxL] at this; exact this
  simp -dsimp only [↓reduceIte, go_sem]
  refine arr_intro fun _ => ?_
  simp only [List.length_map]
  simp -dsimp only [↓reduceIte, go_sem]
  refine awp_rounds (fun (k : Nat) τ s => k ≤ l.length ∧ s = σ ∧ τ 0 = .slice tk0 (l.map AV.str) ∧ τ 8 = .slice tk0 (l.map AV.str) ∧ τ 9 = .int .i64 l.length ∧ τ 10 = .int .i64 k ∧ allBefore l k 0) (fun k => l.length - k) 0 ?_ ?_
  · refine ⟨by omega, rfl, ?_, ?_, ?_, ?_, allBefore_zero⟩ <;> simp only [go_sem] <;> rfl
  · rintro k τ s ⟨hk, rfl, t0, t8, t9, t10, hall⟩
    simp -dsimp only [↓reduceIte, go_sem, t0, t8, t9, t10]
    refine boolW_split (fun hb => ?_) (fun hb => ?_)
    · have hb : k < l.length := by simp at hb; omega
      obtain ⟨y, hy⟩ := get_lt hb
      simp -dsimp only [↓reduceIte, go_sem, t0, t8, t9, t10]
      refine nth_get hy ?_
      simp -dsimp only [↓reduceIte, go_sem, t0, t8, t9, t10]
      refine slice_hi E33 ⟨_, Try.underlying9⟩ sizes_str (by simp; omega) fun tk' => ?_
      simp -dsimp only [↓reduceIte, go_sem, t0, t8, t9, t10]
      refine arr_intro fun _ => ?_
      rw [List.length_take, List.length_map, Nat.min_eq_left (by omega)]
      simp -dsimp only [↓reduceIte, go_sem, t0, t8, t9, t10]
      refine awp_rounds (fun (i : Nat) τ s' => i ≤ k ∧ s' = s ∧ τ 0 = .slice tk0 (l.map AV.str) ∧ τ 8 = .slice tk0 (l.map AV.str) ∧ τ 9 = .int .i64 l.length ∧ τ 10 = .int .i64 k ∧ τ 4 = .int .i64 k ∧ τ 5 = .str y ∧
        τ 17 = .slice tk' ((l.take k).map AV.str) ∧ τ 18 = .int .i64 k ∧ τ 19 = .int .i64 i ∧ allBefore l k i) (fun i => k - i) 0 ?_ ?_
      · refine ⟨by omega, rfl, ?_, ?_, ?_, ?_, ?_, ?_, ?_, ?_, ?_, hall⟩ <;> simp only [go_sem, t0, t8, t9, t10, List.map_take] <;> rfl
      · rintro i τ s' ⟨hi, rfl, t0, t8, t9, t10, t4, t5, t17, t18, t19, hall⟩
        simp -dsimp only [↓reduceIte, go_sem, t0, t8, t9, t10, t4, t5, t17, t18, t19]
        refine boolW_split (fun hc => ?_) (fun hc => ?_)
        · have hc : i < k := by simp at hc; omega
          obtain ⟨x, hx⟩ := get_lt (l := l) (i := i) (by omega)
          have hx2 : (l.take k)[i]? = some x := by rw [List.getElem?_take, if_pos hc]; exact hx
          simp -dsimp only [↓reduceIte, go_sem, t0, t8, t9, t10, t4, t5, t17, t18, t19]
          refine nth_get hx2 ?_
          simp -dsimp only [↓reduceIte, go_sem, t0, t8, t9, t10, t4, t5, t17, t18, t19]
          refine fit_c ?_
          cases hf : fit x y with
          | true =>
            simp -dsimp only [↓reduceIte, go_sem, t0, t8, t9, t10, t4, t5, t17, t18, t19]
            rw [wrap_i64 (by omega) (by omega)]
            refine later_intro ⟨i + 1, by omega, by omega, rfl, ?_, ?_, ?_, ?_, ?_, ?_, ?_, ?_, ?_, allBefore_step hall hx hy hf⟩ <;> simp only [go_sem, t0, t8, t9, t10, t4, t5, t17, t18, t19] <;> rfl
          | false =>
            simp -dsimp only [↓reduceIte, go_sem, t0, t8, t9, t10, t4, t5, t17, t18, t19]
            exact hK _ _ (.inl ⟨i, k, x, y, hc, hx, hy, hf, hall, rfl, rfl⟩)
        · have hc : i = k := by simp at hc; omega
          subst hc
          simp -dsimp only [↓reduceIte, go_sem, t0, t8, t9, t10, t4, t5, t17, t18, t19]
          rw [wrap_i64 (by omega) (by omega)]
          refine later_intro ⟨i + 1, by omega, by omega, rfl, ?_, ?_, ?_, ?_, allBefore_row hall⟩ <;> simp only [go_sem, t0, t8, t9, t10, t4, t5, t17, t18, t19] <;> rfl
    · have hb : k = l.length := by simp at hb; omega
      subst hb
      simp -dsimp only [↓reduceIte, go_sem, t0, t8, t9, t10]
      exact hK _ _ (.inr ⟨hall, rfl, rfl⟩)

theorem fork_awake {a b : Int} (h : ForkP [[97], [97, 98], [98]] a b) : a = 0 ∧ b = 2 := by
  refine fork_found (k := 2) (i := 0) (x := [97]) (y := [98]) h ?_ (by decide) rfl rfl (by decide)
  intro k' i' h1 h2 x y hx hy
  obtain ⟨rfl, rfl⟩ : k' = 1 ∧ i' = 0 := by omega
  simp at hx hy
  subst hx; subst hy; decide

theorem awake_c {σ : AST} {K : AV → AST → Prop} (hK : K (.bool true) σ) : TCalls Try.prog 9 [] σ K := by
  refine tcalls_walk Try.f9 _ [.tmp 0] Try.func9 rfl rfl rfl mixed (Nat.le_of_ble_eq_true rfl) rfl fun hlen => ?_
  simp -dsimp only [↓reduceIte, go_sem]
  refine build_slice E33 rfl (by decide) ?_ ?_
  · intro v hv
    simp at hv
    rcases hv with rfl | rfl | rfl <;> exact ⟨by simp only [go_sem], rfl⟩
  simp -dsimp only [↓reduceIte, go_sem]
  refine fork_c (l := [[97], [97, 98], [98]]) fun a b hab => ?_
  obtain ⟨rfl, rfl⟩ := fork_awake hab
  simp -dsimp only [↓reduceIte, go_sem]
  refine count_c ?_
  rw [show ((cnt 0 [0, 1, 0] : Nat) : Int) = 2 by decide]
  simp -dsimp only [↓reduceIte, go_sem]
  refine upto_c ?_
  rw [show upto [0, 1, 0] 1 = [0, 1] by decide]
  simp -dsimp only [↓reduceIte, go_sem]
  refine place_c ?_
  rw [show place [0, 1, 0] 0 2 = 2 by decide]
  simp -dsimp only [↓reduceIte, go_sem]
  refine fit_c ?_
  rw [show fit [0, 1] [0, 0] = false by decide]
  simp -dsimp only [↓reduceIte, go_sem]
  refine goes_c ?_
  rw [show goes [0, 1, 0] [0] = true by decide]
  simp -dsimp only [↓reduceIte, go_sem]
  refine right_c (by decide) (by decide) ?_
  rw [show right [0, 1, 0] 2 = true by decide]
  simp -dsimp only [↓reduceIte, go_sem]
  refine right_c (by decide) (by decide) ?_
  rw [show right [0, 1, 0] 1 = false by decide]
  simp -dsimp only [↓reduceIte, go_sem]
  exact hK
end Go.Aff.L09
