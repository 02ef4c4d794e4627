/- Layer 1, walked: the reference's texts that are read; how a list begins. -/
import Derived.Test.YtfomojflekepoaaW01p
import Derived.Test.YtfomojflekepoaaW01i
namespace Go.Aff.L01
open Go.Proofs Go.Aff
set_option linter.unusedVariables false
set_option linter.unusedSimpArgs false
attribute [local go_sem] Try.underlying3 Try.underlying4 Try.underlying5 Try.underlying9 Try.underlying51 Try.underlying53 Try.underlying27

theorem ReadText_c {s : List UInt8} {i : Int} (hi0 : -9223372036854775808 ≤ i) (hi1 : i ≤ 9223372036854775807) {σ : AST} {K : AV → AST → Prop}
    (hK : K (tupT (textR s i)) σ) : TCalls Try.prog 22 [.str s, .int .i64 i] σ K := by
  refine tcalls_walk Try.f22 _ [.tmp 4, .tmp 5, .tmp 6] Try.func22 rfl rfl rfl mixed (Nat.le_of_ble_eq_true rfl) rfl fun hlen => ?_
  have hs : s.length ≤ 9223372036854775807 := hlen (.str s) (by simp)
  refine awp_seq_k fun KA hKA => ?_
  simp -dsimp only [↓reduceIte, go_sem]
  refine hKA _ _ (awp_seq_k fun KB hKB => ?_)
  have go : ∀ τ : Env, τ 0 = .str s → τ 1 = .int .i64 i → ¬ (i < 0 ∨ (s.length : Int) < i) → KB τ σ := by
    intro τ t0 t1 hok
    have hi : (i.toNat : Int) = i := by omega
    rw [textR, if_neg hok] at hK
    generalize hp : i.toNat = q at hi hK
    have hql : q ≤ s.length := by omega
    rw [← hi] at t1
    have hel := dend_le hql
    have heq : q ≤ dend s q := by unfold dend; omega
    rw [textP] at hK
    refine hKB _ _ ?_
    simp -dsimp only [↓reduceIte, go_sem, t0, t1]
    refine end_c hql ?_
    simp -dsimp only [↓reduceIte, go_sem, t0, t1]
    refine bad_c (last := 58) heq hel ?_
    generalize hsh : shapeS s q (dend s q) 58 = sh at *
    simp -dsimp only [↓reduceIte, go_sem, t0, t1]
    refine boolW_split (fun h1 => ?_) (fun h1 => ?_)
    · have h1 : sh ≠ 0 := by simpa using h1
      rw [if_pos h1] at hK
      simp -dsimp only [↓reduceIte, go_sem, t0, t1]
      exact hK
    · have h1 : sh = 0 := by simpa using h1
      rw [if_neg (by simp [h1])] at hK
      rw [h1] at hsh
      have hlt := shape_ok hsh hel
      have hee : dend s q = q + (digs s q).length := rfl
      have hDg : ∀ k, k < (digs s q).length → (digs s q)[k]? = s[q + k]? := fun k hk => digs_get hk
      have hDd : ∀ b ∈ digs s q, 48 ≤ b.toNat ∧ b.toNat ≤ 57 := fun b hb => by have := digs_isD b hb; simpa [isD] using this
      generalize hD : digs s q = D at *
      generalize hE : dend s q = e at *
      simp -dsimp only [↓reduceIte, go_sem, t0, t1]
      refine awp_rounds (fun (k : Nat) τ s' => s' = σ ∧ τ 0 = .str s ∧ τ 7 = .int .i64 e ∧ τ 10 = .int .i64 (q + k : Nat) ∧ k ≤ D.length ∧ τ 9 = .int .i64 (val (D.take k) : Nat) ∧ val (D.take k) ≤ 16384) (fun k => D.length - k) 0 ?_ ?_
      · refine ⟨rfl, ?_, ?_, ?_, by omega, ?_, by simp [val]⟩ <;> simp only [go_sem, t0, t1] <;> rfl
      · rintro k τ s' ⟨rfl, t0, t7, t10, hk, t9, hv⟩
        simp -dsimp only [↓reduceIte, go_sem, t0, t7, t9, t10]
        refine boolW_split (fun h2 => ?_) (fun h2 => ?_)
        · have h2 : k < D.length := by simp at h2; omega
          obtain ⟨b, hb⟩ := get_lt h2
          have hbs := hDg k h2
          rw [hb] at hbs
          have hbd := hDd b (List.mem_iff_getElem?.2 ⟨k, hb⟩)
          have hval := val_take_succ hb
          simp -dsimp only [↓reduceIte, go_sem, t0, t7, t9, t10]
          refine nth_get hbs.symm ?_
          simp -dsimp only [↓reduceIte, go_sem, t0, t7, t9, t10]
          have hn : IntKind.i64.wrap (IntKind.i64.wrap (IntKind.i64.wrap ((val (D.take k) : Nat) * 10 : Int) + IntKind.i64.wrap (b.toNat : Int)) - 48) = ((val (D.take (k + 1)) : Nat) : Int) := by
            rw [wrap_i64 (n := (b.toNat : Int)) (by omega) (by omega), wrap_i64 (n := ((val (D.take k) : Nat) * 10 : Int)) (by omega) (by omega), wrap_i64 (n := ((val (D.take k) : Nat) * 10 : Int) + _) (by omega) (by omega), wrap_i64 (by omega) (by omega), hval]; omega
          rw [hn]
          refine boolW_split (fun h3 => ?_) (fun h3 => ?_)
          · have hm := val_mono (D := D) (k + 1)
            have h3 : 16384 < val D := by simp at h3; omega
            rw [if_pos h3] at hK
            simp -dsimp only [↓reduceIte, go_sem, t0, t7, t9, t10]
            exact hK
          · have h3 : val (D.take (k + 1)) ≤ 16384 := by simp at h3; omega
            simp -dsimp only [↓reduceIte, go_sem, t0, t7, t9, t10]
            refine later_intro ⟨k + 1, by omega, rfl, ?_, ?_, ?_, by omega, ?_, h3⟩ <;> simp only [go_sem, t0, t7, t9, t10]
            rw [wrap_i64 (by omega) (by omega)]; congr 1
        · have h2 : k = D.length := by simp at h2; omega
          subst h2
          rw [List.take_length] at t9 hv
          rw [if_neg (by omega)] at hK
          simp -dsimp only [↓reduceIte, go_sem, t0, t7, t9, t10]
          refine arr_intro fun _ => ?_
          simp -dsimp only [↓reduceIte, go_sem, t0, t7, t9, t10]
          rw [wrap_i64 (n := (s.length : Int) - _) (by omega) (by omega), wrap_i64 (by omega) (by omega)]
          have he1 : IntKind.i64.wrap ((e : Int) + 1) = ((e + 1 : Nat) : Int) := by rw [wrap_i64 (by omega) (by omega)]; omega
          refine boolW_split (fun h3 => ?_) (fun h3 => ?_)
          · have h3 : s.length < e + 1 + val D := by simp at h3; omega
            rw [if_pos h3] at hK
            simp -dsimp only [↓reduceIte, go_sem, t0, t7, t9, t10]
            exact hK
          · have h3 : ¬ s.length < e + 1 + val D := by simp at h3; omega
            rw [if_neg h3] at hK
            have hfin : IntKind.i64.wrap (((e + 1 : Nat) : Int) + (val D : Int)) = ((e + 1 + val D : Nat) : Int) := by rw [wrap_i64 (by omega) (by omega)]; omega
            simp -dsimp only [↓reduceIte, go_sem, t0, t7, t9, t10]
            rw [he1]
            refine side_later (by omega) ?_
            simp -dsimp only [↓reduceIte, go_sem, t0, t7, t9, t10]
            rw [hfin]
            refine side_later (by omega) ?_
            simp -dsimp only [↓reduceIte, go_sem, t0, t7, t9, t10]
            refine ⟨by omega, by omega, later_intro ?_⟩
            simp -dsimp only [↓reduceIte, go_sem, t0, t7, t9, t10]
            rw [he1, hfin]
            exact hK
  have bad : i < 0 ∨ (s.length : Int) < i → K (tupT ([], 0, 3)) σ := fun h => by
    rw [textR, if_pos h] at hK; exact hK
  simp -dsimp only [↓reduceIte, go_sem]
  refine guardV_split (fun h1 => ?_) (fun h1 => ?_) <;> (try rw [h1])
  · have h1 : ¬ i < 0 := by simpa using h1
    simp -dsimp only [↓reduceIte, go_sem]
    refine arr_intro fun _ => ?_
    simp -dsimp only [↓reduceIte, go_sem]
    refine boolW_split (fun h2 => ?_) (fun h2 => ?_)
    · have h2 : (s.length : Int) < i := by simpa using h2
      simp -dsimp only [↓reduceIte, go_sem]
      exact bad (.inr h2)
    · have h2 : ¬ (s.length : Int) < i := by simpa using h2
      simp -dsimp only [↓reduceIte, go_sem]
      refine go _ ?_ ?_ (by omega) <;> simp only [go_sem]
  · have h1 : i < 0 := by simpa using h1
    simp -dsimp only [↓reduceIte, go_sem]
    exact bad (.inl h1)
end Go.Aff.L01
