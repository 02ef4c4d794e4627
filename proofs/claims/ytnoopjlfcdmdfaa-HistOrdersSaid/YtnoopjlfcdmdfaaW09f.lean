/- Layer 9, walked: HistFits, HistOrders, HistGrows. -/
import Derived.Test.YtnoopjlfcdmdfaaW09e
namespace Go.Aff.L09
open Go.Proofs Go.Aff
set_option linter.unusedVariables false
set_option linter.unusedSimpArgs false
attribute [local go_sem] Try.underlying3 Try.underlying4 Try.underlying5 Try.underlying9 Try.underlying33 fits3 fits9

theorem histFits_c {a b : List UInt8} {σ : AST} {K : AV → AST → Prop} (hK : K (.bool true) σ) : TCalls Try.prog 6 [.str a, .str b] σ K := by
  refine tcalls_walk Try.f6 _ [.tmp 4] Try.func6 rfl rfl rfl mixed (Nat.le_of_ble_eq_true rfl) rfl fun hlen => ?_
  simp -dsimp only [↓reduceIte, go_sem]
  refine few_c ?_
  simp -dsimp only [↓reduceIte, go_sem]
  refine few_c ?_
  generalize a.take 700 = a
  generalize b.take 700 = b
  simp -dsimp only [↓reduceIte, go_sem]
  refine awake_c ?_
  simp -dsimp only [↓reduceIte, go_sem]
  refine goes_c ?_
  simp -dsimp only [↓reduceIte, go_sem]
  refine Goes_c ?_
  simp -dsimp only [↓reduceIte, go_sem]
  refine fit_c ?_
  simp -dsimp only [↓reduceIte, go_sem]
  refine Fit_c ?_
  simp -dsimp only [↓reduceIte, go_sem]
  refine longer_c ?_
  simp -dsimp only [↓reduceIte, go_sem]
  refine Longer_c ?_
  simp -dsimp only [↓reduceIte, go_sem]
  exact hK

theorem histOrders_c {a b c : List UInt8} {σ : AST} {K : AV → AST → Prop} (hK : K (.bool true) σ) : TCalls Try.prog 7 [.str a, .str b, .str c] σ K := by
  refine tcalls_walk Try.f7 _ [.tmp 6] Try.func7 rfl rfl rfl mixed (Nat.le_of_ble_eq_true rfl) rfl fun hlen => ?_
  refine awp_seq_k fun KA hKA => ?_
  simp -dsimp only [↓reduceIte, go_sem]
  refine hKA _ _ (awp_seq_k fun KB hKB => ?_)
  simp -dsimp only [↓reduceIte, go_sem]
  refine few_c ?_
  simp -dsimp only [↓reduceIte, go_sem]
  refine few_c ?_
  simp -dsimp only [↓reduceIte, go_sem]
  refine few_c ?_
  generalize a.take 700 = a
  generalize b.take 700 = b
  generalize c.take 700 = c
  simp -dsimp only [↓reduceIte, go_sem]
  refine hKB _ _ (awp_seq_k fun KC hKC => ?_)
  have hrefl := goes_refl (a := a)
  have tail : ∀ τ : Env, τ 0 = .str a → τ 1 = .str b → τ 2 = .str c → KC τ σ := by
    intro τ t0 t1 t2
    refine hKC _ _ (awp_seq_k fun KE hKE => ?_)
    have tail2 : ∀ τ : Env, τ 0 = .str a → τ 1 = .str b → τ 2 = .str c → KE τ σ := by
      intro τ t0 t1 t2
      refine hKE _ _ ?_
      have hsym := fit_symm (a := b) (b := a)
      have hl := longer_goes (a := a) (b := b)
      have hor := longer_or (a := a) (b := b)
      simp -dsimp only [↓reduceIte, go_sem, t0, t1, t2]
      refine longer_c ?_
      generalize longer a b = l at *
      simp -dsimp only [↓reduceIte, go_sem, t0, t1, t2]
      refine awake_c ?_
      simp -dsimp only [↓reduceIte, go_sem, t0, t1, t2]
      refine fit_c ?_
      simp -dsimp only [↓reduceIte, go_sem, t0, t1, t2]
      refine fit_c ?_
      rw [hsym]
      simp -dsimp only [↓reduceIte, go_sem, t0, t1, t2]
      refine fit_c ?_
      cases hf : fit a b with
      | false =>
        simp -dsimp only [↓reduceIte, go_sem, t0, t1, t2]
        exact hK
      | true =>
        obtain ⟨hl1, hl2⟩ := hl hf
        simp -dsimp only [↓reduceIte, go_sem, t0, t1, t2]
        refine goes_c ?_
        simp -dsimp only [↓reduceIte, go_sem, t0, t1, t2, hl1]
        refine goes_c ?_
        simp -dsimp only [↓reduceIte, go_sem, t0, t1, t2, hl2]
        rcases hor with rfl | rfl
        · simp -dsimp only [↓reduceIte, go_sem, t0, t1, t2]
          exact hK
        · cases hlb : (l == a) with
          | true =>
            simp -dsimp only [↓reduceIte, go_sem, t0, t1, t2]
            exact hK
          | false =>
            simp -dsimp only [↓reduceIte, go_sem, t0, t1, t2]
            exact hK
    simp -dsimp only [↓reduceIte, go_sem, t0, t1, t2]
    refine goes_c ?_
    cases h1 : goes a b with
    | false =>
      simp -dsimp only [↓reduceIte, go_sem, t0, t1, t2]
      exact tail2 _ (by simp only [go_sem, t0]) (by simp only [go_sem, t1]) (by simp only [go_sem, t2])
    | true =>
      simp -dsimp only [↓reduceIte, go_sem, t0, t1, t2]
      refine goes_c ?_
      cases h2 : goes a c with
      | false =>
        simp -dsimp only [↓reduceIte, go_sem, t0, t1, t2]
        exact tail2 _ (by simp only [go_sem, t0]) (by simp only [go_sem, t1]) (by simp only [go_sem, t2])
      | true =>
        have hf := goes_fit h1 h2
        simp -dsimp only [↓reduceIte, go_sem, t0, t1, t2]
        refine fit_c ?_
        simp -dsimp only [↓reduceIte, go_sem, t0, t1, t2, hf]
        exact tail2 _ (by simp only [go_sem, t0]) (by simp only [go_sem, t1]) (by simp only [go_sem, t2])
  have hne : goes a b = true → goes b a = true → (a == b) = true := fun h1 h2 => by rw [goes_antisymm h1 h2]; simp
  have htr : goes a b = true → goes b c = true → goes a c = true := goes_trans
  cases h1 : goes a b <;> cases h2 : goes b a <;> cases h3 : goes b c <;> (try have hne := hne h1 h2) <;> (try have htr := htr h1 h3)
  all_goals
    (try rw [h1, h2] at hne)
    simp -dsimp only [↓reduceIte, go_sem, h1, h2, h3, hrefl]
    repeat (refine goes_c ?_; simp -dsimp only [↓reduceIte, go_sem, h1, h2, h3, hrefl, hne, htr])
    refine tail _ ?_ ?_ ?_ <;> simp only [go_sem]

theorem goes_append {a b : List UInt8} : goes (a ++ b) a = true := by simp [goes]
theorem goes_upto {h : List UInt8} {c : Int} : goes h (upto h c) = true := by simp only [goes, decide_eq_true_eq]; exact upto_prefix

theorem histGrows_c {h m : List UInt8} {c : Int} {σ : AST} {K : AV → AST → Prop} (hK : K (.bool true) σ) : TCalls Try.prog 4 [.str h, .str m, .int .i64 c] σ K := by
  refine tcalls_walk Try.f4 _ [.tmp 6] Try.func4 rfl rfl rfl mixed (Nat.le_of_ble_eq_true rfl) rfl fun hlen => ?_
  refine awp_seq_k fun KA hKA => ?_
  simp -dsimp only [↓reduceIte, go_sem]
  refine hKA _ _ (awp_seq_k fun KB hKB => ?_)
  simp -dsimp only [↓reduceIte, go_sem]
  refine few_c ?_
  simp -dsimp only [↓reduceIte, go_sem]
  refine few_c ?_
  have l1 : (h.take 700).length ≤ 700 := by simp; omega
  have l2 : (m.take 700).length ≤ 700 := by simp; omega
  generalize h.take 700 = h at *
  generalize m.take 700 = m at *
  have c1 := cnt_le (c := c) (h := h)
  have c2 := cnt_le (c := c) (h := m)
  have c3 := cnt_append (c := c) (a := h) (b := m)
  have c4 := cnt_upto (c := c) (h := h)
  have hg := goes_append (a := h) (b := m)
  have hu := goes_upto (h := h) (c := c)
  simp -dsimp only [↓reduceIte, go_sem]
  refine hKB _ _ ?_
  simp -dsimp only [↓reduceIte, go_sem]
  refine side_later (by simp [maxL]; omega) ?_
  simp -dsimp only [↓reduceIte, go_sem]
  refine awake_c ?_
  simp -dsimp only [↓reduceIte, go_sem]
  refine goes_c ?_
  simp -dsimp only [↓reduceIte, go_sem, hg]
  refine count_c ?_
  simp -dsimp only [↓reduceIte, go_sem]
  refine count_c ?_
  simp -dsimp only [↓reduceIte, go_sem]
  refine count_c ?_
  rw [c3]
  simp -dsimp only [↓reduceIte, go_sem]
  rw [wrap_i64 (by omega) (by omega), show (((cnt c h + cnt c m : Nat) : Int) != (cnt c h : Int) + (cnt c m : Int)) = false by simp]
  simp -dsimp only [↓reduceIte, go_sem]
  refine awp_rounds (fun (k : Nat) τ s => k ≤ 39 ∧ s = σ ∧ τ 0 = .str h ∧ τ 1 = .str m ∧ τ 2 = .int .i64 c ∧ τ 7 = .str (h ++ m) ∧ τ 8 = .int .i64 (k + 1 : Nat)) (fun k => 40 - k) 0 ?_ ?_
  · refine ⟨by omega, rfl, ?_, ?_, ?_, ?_, ?_⟩ <;> simp only [go_sem] <;> rfl
  · rintro k τ s ⟨hk, rfl, t0, t1, t2, t7, t8⟩
    simp -dsimp only [↓reduceIte, go_sem, t0, t1, t2, t7, t8]
    refine count_c ?_
    simp -dsimp only [↓reduceIte, go_sem, t0, t1, t2, t7, t8]
    have fin : cnt c m = 0 → (upto (h ++ m) c == upto h c) = true := fun h0 => by rw [upto_append h0]; simp
    refine guardV_split (fun h1 => ?_) (fun h1 => ?_) <;> (try rw [h1])
    · have h1 : k + 1 ≤ cnt c h := by simp at h1; omega
      simp -dsimp only [↓reduceIte, go_sem, t0, t1, t2, t7, t8]
      refine boolW_split (fun h2 => ?_) (fun h2 => ?_)
      · have h2 : k + 1 < 40 := by simp at h2; omega
        have hp := place_append (c := c) (more := m) (n := k + 1) (by omega) h1
        simp -dsimp only [↓reduceIte, go_sem, t0, t1, t2, t7, t8]
        refine place_c ?_
        simp -dsimp only [↓reduceIte, go_sem, t0, t1, t2, t7, t8]
        refine place_c ?_
        rw [hp]
        simp -dsimp only [↓reduceIte, go_sem, t0, t1, t2, t7, t8]
        rw [wrap_i64 (by omega) (by omega)]
        refine later_intro ⟨k + 1, by omega, by omega, rfl, ?_, ?_, ?_, ?_, ?_⟩ <;> simp only [go_sem, t0, t1, t2, t7, t8] <;> rfl
      · simp -dsimp only [↓reduceIte, go_sem, t0, t1, t2, t7, t8]
        refine upto_c ?_
        simp -dsimp only [↓reduceIte, go_sem, t0, t1, t2, t7, t8]
        refine goes_c ?_
        simp -dsimp only [↓reduceIte, go_sem, t0, t1, t2, t7, t8, hu]
        refine count_c ?_
        simp -dsimp only [↓reduceIte, go_sem, t0, t1, t2, t7, t8]
        refine count_c ?_
        rw [c4]
        simp -dsimp only [↓reduceIte, go_sem, t0, t1, t2, t7, t8]
        refine count_c ?_
        by_cases h0 : cnt c m = 0
        · have hd : decide ((0 : Int) < (cnt c m : Nat)) = false := by simp; omega
          simp -dsimp only [↓reduceIte, go_sem, t0, t1, t2, t7, t8, hd]
          refine upto_c ?_
          simp -dsimp only [↓reduceIte, go_sem, t0, t1, t2, t7, t8, fin h0]
          exact hK
        · have h0 : decide ((0 : Int) < (cnt c m : Nat)) = true := by simp; omega
          simp -dsimp only [↓reduceIte, go_sem, t0, t1, t2, t7, t8, h0]
          exact hK
    · simp -dsimp only [↓reduceIte, go_sem, t0, t1, t2, t7, t8]
      refine upto_c ?_
      simp -dsimp only [↓reduceIte, go_sem, t0, t1, t2, t7, t8]
      refine goes_c ?_
      simp -dsimp only [↓reduceIte, go_sem, t0, t1, t2, t7, t8, hu]
      refine count_c ?_
      simp -dsimp only [↓reduceIte, go_sem, t0, t1, t2, t7, t8]
      refine count_c ?_
      rw [c4]
      simp -dsimp only [↓reduceIte, go_sem, t0, t1, t2, t7, t8]
      refine count_c ?_
      by_cases h0 : cnt c m = 0
      · have hd : decide ((0 : Int) < (cnt c m : Nat)) = false := by simp; omega
        simp -dsimp only [↓reduceIte, go_sem, t0, t1, t2, t7, t8, hd]
        refine upto_c ?_
        simp -dsimp only [↓reduceIte, go_sem, t0, t1, t2, t7, t8, fin h0]
        exact hK
      · have h0 : decide ((0 : Int) < (cnt c m : Nat)) = true := by simp; omega
        simp -dsimp only [↓reduceIte, go_sem, t0, t1, t2, t7, t8, h0]
        exact hK
end Go.Aff.L09
