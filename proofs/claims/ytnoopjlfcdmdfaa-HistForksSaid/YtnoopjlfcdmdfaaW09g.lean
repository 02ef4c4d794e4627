/- Layer 9, walked: HistCounts, HistForks. -/
import Derived.Test.YtnoopjlfcdmdfaaW09e
namespace Go.Aff.L09
open Go.Proofs Go.Aff
set_option linter.unusedVariables false
set_option linter.unusedSimpArgs false
theorem p23_0 {ps : List AV} {x : AV} : partIs Try.prog 23 ps 0 x = (0 = AV.sizes (ps.take 0) ∧ fits Try.prog 9 x) := partIs_of (by kernel_rfl)
theorem p23_1 {ps : List AV} {x : AV} : partIs Try.prog 23 ps 1 x = (1 = AV.sizes (ps.take 1) ∧ fits Try.prog 3 x) := partIs_of (by kernel_rfl)
theorem p23_2 {ps : List AV} {x : AV} : partIs Try.prog 23 ps 2 x = (2 = AV.sizes (ps.take 2) ∧ fits Try.prog 3 x) := partIs_of (by kernel_rfl)
theorem p23_3 {ps : List AV} {x : AV} : partIs Try.prog 23 ps 3 x = (3 = AV.sizes (ps.take 3) ∧ fits Try.prog 3 x) := partIs_of (by kernel_rfl)
attribute [local go_sem] Try.underlying3 Try.underlying4 Try.underlying5 Try.underlying9 Try.underlying33 Try.underlying23 fits3 fits9 p23_0 p23_1 p23_2 p23_3

theorem histCounts_c {h : List UInt8} {n c k : Int} (h0 : -9223372036854775808 ≤ n) (h1 : n ≤ 9223372036854775807) {σ : AST} {K : AV → AST → Prop} (hK : K (.bool true) σ) : TCalls Try.prog 3 [.agg [.str h, .int .i64 n, .int .i64 c, .int .i64 k]] σ K := by
  refine TCalls.drop ?_
  refine tcalls_walk Try.f3 _ [.tmp 2] Try.func3 rfl rfl rfl mixed (Nat.le_of_ble_eq_true rfl) rfl fun hlen => ?_
  simp -dsimp only [↓reduceIte, go_sem]
  refine awp_drawS [0, 1, 3, 4, 5, 6, 7, 8, 2, 9, 10, 11, 12] (by kernel_rfl) ?_
  simp -dsimp only [↓reduceIte, go_sem]
  refine few_c ?_
  generalize h.take 700 = h
  simp -dsimp only [↓reduceIte, go_sem]
  refine awake_c ?_
  simp -dsimp only [↓reduceIte, go_sem]
  refine right_c h0 h1 ?_
  simp -dsimp only [↓reduceIte, go_sem]
  refine Right_c h0 h1 ?_
  simp -dsimp only [↓reduceIte, go_sem]
  refine count_c ?_
  simp -dsimp only [↓reduceIte, go_sem]
  refine Count_c ?_
  simp -dsimp only [↓reduceIte, go_sem]
  refine place_c ?_
  simp -dsimp only [↓reduceIte, go_sem]
  refine Place_c ?_
  simp -dsimp only [↓reduceIte, go_sem]
  refine upto_c ?_
  simp -dsimp only [↓reduceIte, go_sem]
  refine Upto_c ?_
  simp -dsimp only [↓reduceIte, go_sem]
  exact ⟨Ext.push _ _, rfl, hK⟩

/-- The second half of HistForks: over what was cut. -/
theorem histForks_c {l : List (List UInt8)} {tk0 : Tk} {σ : AST} {K : AV → AST → Prop} (hK : K (.bool true) σ) : TCalls Try.prog 5 [.slice tk0 (l.map AV.str)] σ K := by
  refine TCalls.drop ?_
  refine tcalls_walk Try.f5 _ [.tmp 2] Try.func5 rfl rfl rfl mixed (Nat.le_of_ble_eq_true rfl) rfl fun hlen => ?_
  have hs : l.length ≤ 9223372036854775807 := by
    have := hlen (.slice tk0 (l.map AV.str)) (by simp)
    simp only [lenOk, List.length_map, maxL] at this; exact this
  have fin : ∀ s' : AST, Ext σ s' → Ext σ s' ∧ (AV.bool true).noRef = true ∧ K (AV.bool true).strip σ := fun s' hx => ⟨hx, rfl, by simpa [AV.strip] using hK⟩
  refine awp_seq_k fun KA hKA => ?_
  simp -dsimp only [↓reduceIte, go_sem]
  refine hKA _ _ (awp_seq_k fun KB hKB => ?_)
  have tail : ∀ (τ : Env) (l' : List (List UInt8)) (tk1 : Tk), l'.length ≤ 12 → τ 0 = .slice tk1 (l'.map AV.str) → KB τ σ := by
    intro τ l tk1 hl t0
    refine hKB _ _ ?_
    simp -dsimp only [↓reduceIte, go_sem, t0]
    refine awp_rounds (fun (i : Nat) τ s => i ≤ l.length ∧ Ext σ s ∧ τ 0 = .slice tk1 (l.map AV.str) ∧ τ 4 = .int .i64 i ∧ ∃ tk, (i = 0 ∧ tk = .full ∨ ∃ k, tk = .own k ∧ σ.toks.length ≤ k) ∧ canApp s tk i 1 ∧ τ 3 = .slice tk (((l.take i).map (List.take 700)).map AV.str)) (fun i => l.length - i) 0 ?_ ?_
    · refine ⟨by omega, Ext.refl _, ?_, ?_, .full, .inl ⟨rfl, rfl⟩, trivial, ?_⟩ <;> simp only [go_sem, t0] <;> rfl
    · rintro i τ s ⟨hi, hx, t0, t4, tk, htk, hcan, t3⟩
      have htn : tkNew σ tk := by
        rcases htk with ⟨_, h⟩ | h
        · exact .inl h
        · exact .inr h
      have hlen2 : ((l.take i).map (List.take 700)).length = i := by simp; omega
      simp -dsimp only [↓reduceIte, go_sem, t0, t3, t4]
      refine arr_intro fun _ => ?_
      simp only [List.length_map]
      simp -dsimp only [↓reduceIte, go_sem, t0, t3, t4]
      refine boolW_split (fun hb => ?_) (fun hb => ?_)
      · have hb : i < l.length := by simp at hb; omega
        obtain ⟨x, hx1⟩ := get_lt hb
        simp -dsimp only [↓reduceIte, go_sem, t0, t3, t4]
        refine nth_get hx1 ?_
        simp -dsimp only [↓reduceIte, go_sem, t0, t3, t4]
        refine few_c ?_
        simp -dsimp only [↓reduceIte, go_sem, t0, t3, t4]
        refine build_slice E33 rfl (by decide) ?_ ?_
        · intro v hv
          simp at hv; subst hv
          exact ⟨by simp only [go_sem], rfl⟩
        simp -dsimp only [↓reduceIte, go_sem, t0, t3, t4]
        refine append_slice E33 (by rfl) (by rw [List.length_map, hlen2]; exact hcan) (by intro v hv; simp at hv; subst hv; simp only [go_sem]) sizes_str (by simp; omega) (by simp [maxL]; omega) ?_
        simp -dsimp only [↓reduceIte, go_sem, t0, t3, t4]
        rw [wrap_i64 (by omega) (by omega)]
        refine later_intro ⟨i + 1, by omega, by omega, hx.grow htn, ?_, ?_, growT s tk, ?_, ?_, ?_⟩ <;> (try simp only [go_sem, t0, t3, t4]) <;> try rfl
        · right
          rcases htn.grow hx with h | h
          · rcases htk with ⟨_, rfl⟩ | ⟨k, rfl, _⟩ <;> simp [growT] at h
          · exact h
        · have := canApp_grow (n := i + 1) (es := 1) hcan
          simp only [List.length_map, List.length_take, List.length_cons, List.length_nil, Nat.min_eq_left (Nat.le_of_lt hb)]
          exact this
        · have : l.take (i + 1) = l.take i ++ [x] := by rw [List.take_add_one (l := l), hx1]; rfl
          rw [this]; simp only [List.map_append, List.map_cons, List.map_nil]
      · have hb : i = l.length := by simp at hb; omega
        subst hb
        rw [List.take_length] at t3
        generalize hm : l.map (List.take 700) = m at t3
        have hml : m.length ≤ 12 := by rw [← hm]; simp; exact hl
        simp -dsimp only [↓reduceIte, go_sem, t0, t3, t4]
        refine fork_c fun a b hab => ?_
        simp -dsimp only [↓reduceIte, go_sem, t0, t3, t4]
        refine awp_rounds (fun (k : Nat) τ s' => k ≤ m.length ∧ s' = s ∧ τ 3 = .slice tk (m.map AV.str) ∧ τ 5 = .int .i64 a ∧ τ 6 = .int .i64 b ∧ τ 7 = .int .i64 k ∧ allBefore m k 0) (fun k => m.length - k) 0 ?_ ?_
        · refine ⟨by omega, rfl, ?_, ?_, ?_, ?_, allBefore_zero⟩ <;> simp only [go_sem, t0, t3, t4] <;> rfl
        · rintro k τ s' ⟨hk, rfl, t3, t5, t6, t7, hall⟩
          simp -dsimp only [↓reduceIte, go_sem, t3, t5, t6, t7]
          refine arr_intro fun _ => ?_
          simp only [List.length_map]
          simp -dsimp only [↓reduceIte, go_sem, t3, t5, t6, t7]
          refine boolW_split (fun hb => ?_) (fun hb => ?_)
          · have hb : k < m.length := by simp at hb; omega
            obtain ⟨y, hy⟩ := get_lt hb
            simp -dsimp only [↓reduceIte, go_sem, t3, t5, t6, t7]
            refine awp_rounds (fun (i : Nat) τ s'' => i ≤ k ∧ s'' = s' ∧ τ 3 = .slice tk (m.map AV.str) ∧ τ 5 = .int .i64 a ∧ τ 6 = .int .i64 b ∧ τ 7 = .int .i64 k ∧ τ 8 = .int .i64 i ∧ allBefore m k i) (fun i => k - i) 0 ?_ ?_
            · refine ⟨by omega, rfl, ?_, ?_, ?_, ?_, ?_, hall⟩ <;> simp only [go_sem, t3, t5, t6, t7] <;> rfl
            · rintro i τ s'' ⟨hi, rfl, t3, t5, t6, t7, t8, hall⟩
              simp -dsimp only [↓reduceIte, go_sem, t3, t5, t6, t7, t8]
              refine boolW_split (fun hc => ?_) (fun hc => ?_)
              · have hc : i < k := by simp at hc; omega
                obtain ⟨x, hx1⟩ := get_lt (l := m) (i := i) (by omega)
                simp -dsimp only [↓reduceIte, go_sem, t3, t5, t6, t7, t8]
                refine awp_drawS [0, 1, 2, 3, 4, 5, 6, 7, 8, 9] (by kernel_rfl) ?_
                simp -dsimp only [↓reduceIte, go_sem, t3, t5, t6, t7, t8]
                refine nth_get hx1 ?_
                simp -dsimp only [↓reduceIte, go_sem, t3, t5, t6, t7, t8]
                refine nth_get hy ?_
                simp -dsimp only [↓reduceIte, go_sem, t3, t5, t6, t7, t8]
                refine Fit_c ?_
                cases hf : fit x y with
                | true =>
                  simp -dsimp only [↓reduceIte, go_sem, t3, t5, t6, t7, t8]
                  rw [wrap_i64 (by omega) (by omega)]
                  refine later_intro ⟨i + 1, by omega, by omega, rfl, ?_, ?_, ?_, ?_, ?_, allBefore_step hall hx1 hy hf⟩ <;> simp only [go_sem, t3, t5, t6, t7, t8] <;> rfl
                | false =>
                  obtain ⟨rfl, rfl⟩ := fork_found hab hall hc hx1 hy hf
                  simp -dsimp only [↓reduceIte, go_sem, t3, t5, t6, t7, t8]
                  refine awake_c ?_
                  simp -dsimp only [↓reduceIte, go_sem, t3, t5, t6, t7, t8]
                  exact fin _ hx
              · have hc : i = k := by simp at hc; omega
                subst hc
                simp -dsimp only [↓reduceIte, go_sem, t3, t5, t6, t7, t8]
                rw [wrap_i64 (by omega) (by omega)]
                refine later_intro ⟨i + 1, by omega, by omega, rfl, ?_, ?_, ?_, ?_, allBefore_row hall⟩ <;> simp only [go_sem, t3, t5, t6, t7, t8] <;> rfl
          · have hb : k = m.length := by simp at hb; omega
            subst hb
            obtain ⟨rfl, rfl⟩ := fork_none hab hall
            simp -dsimp only [↓reduceIte, go_sem, t3, t5, t6, t7]
            refine awake_c ?_
            simp -dsimp only [↓reduceIte, go_sem, t3, t5, t6, t7]
            exact fin _ hx
  simp -dsimp only [↓reduceIte, go_sem]
  refine arr_intro fun _ => ?_
  simp only [List.length_map]
  simp -dsimp only [↓reduceIte, go_sem]
  refine boolW_split (fun hb => ?_) (fun hb => ?_)
  · have hb : 12 < l.length := by simp at hb; omega
    simp -dsimp only [↓reduceIte, go_sem]
    refine slice_hi E33 ⟨_, Try.underlying9⟩ sizes_str (by simp; omega) fun tk' => ?_
    simp -dsimp only [↓reduceIte, go_sem]
    exact tail _ (l.take 12) tk' (by simp; omega) (by simp only [go_sem, List.map_take])
  · have hb : ¬ 12 < l.length := by simp at hb; omega
    simp -dsimp only [↓reduceIte, go_sem]
    exact tail _ l tk0 (by omega) (by simp only [go_sem])
end Go.Aff.L09
